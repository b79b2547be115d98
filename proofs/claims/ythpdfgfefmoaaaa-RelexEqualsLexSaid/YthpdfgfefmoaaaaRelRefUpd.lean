/- The reference's Update returns the same tokens and the same change. -/
import Derived.Test.YthpdfgfefmoaaaaRelUpdate
import Derived.Test.YthpdfgfefmoaaaaRText
import Derived.Test.YthpdfgfefmoaaaaRepl
namespace Go.Proofs.Ythpdfgfefmoaaaa
open Go.RowKit

theorem Reads.set_far {w : World} {B n : Nat} {A : Option Addr} {l : List Tok} (h : Reads w B 4 A n (toks l)) {g : Nat} {t : TypeId} {a0 a1 a2 : Value} (K : Blk w g t #[a0, a1, a2]) (i : Nat) (u : Value) : Reads (w.setCell ⟨g, i, none⟩ u) B 4 A n (toks l) :=
  ⟨h.1, fun hn => by
    obtain ⟨b, off, e, hb, hc⟩ := h.2 hn
    have hl := h.1
    have hne : b ≠ g := by
      rintro rfl
      have := hc 3 _ (List.getElem?_eq_getElem (by omega))
      rw [K.cell, Array.getElem?_eq_none (by simp)] at this
      injection this
    refine ⟨b, off, e, hb, fun j x hx => (World.cell?_setCell_other _ _ _ _ (fun e => hne (by first | exact congrArg Addr.block e | exact (congrArg Addr.block e).symm))).trans (hc j x hx)⟩⟩
theorem Reads.set_far3 {w : World} {B n : Nat} {A : Option Addr} {l : List Tok} (h : Reads w B 4 A n (toks l)) {g : Nat} {t : TypeId} {a0 a1 a2 : Value} (K : Blk w g t #[a0, a1, a2]) (x0 x1 x2 : Value) :
    Reads (((w.setCell ⟨g, 0, none⟩ x0).setCell ⟨g, 1, none⟩ x1).setCell ⟨g, 2, none⟩ x2) B 4 A n (toks l) := by
  have K0 := K.set_ 0 x0
  simp at K0
  have K1 := K0.set_ 1 x1
  simp at K1
  exact ((h.set_far K 0 x0).set_far K0 1 x1).set_far K1 2 x2
theorem Reads.set_far12 {w : World} {B n : Nat} {A : Option Addr} {l : List Tok} (h : Reads w B 4 A n (toks l)) {g : Nat} {t : TypeId} {a0 a1 a2 : Value} (K : Blk w g t #[a0, a1, a2]) (x1 x2 : Value) :
    Reads ((w.setCell ⟨g, 1, none⟩ x1).setCell ⟨g, 2, none⟩ x2) B 4 A n (toks l) := by
  have K1 := K.set_ 1 x1
  simp at K1
  exact (h.set_far K 1 x1).set_far K1 2 x2
theorem Blk.set12 {w : World} {g : Nat} {t : TypeId} {a0 a1 a2 : Value} (h : Blk w g t #[a0, a1, a2]) (x1 x2 : Value) :
    Blk ((w.setCell ⟨g, 1, none⟩ x1).setCell ⟨g, 2, none⟩ x2) g t #[a0, x1, x2] := by
  have := (h.set_ 1 x1).set_ 2 x2
  simpa using this
theorem reads_drew {w : World} {B size n : Nat} {A : Option Addr} {xs : List Value} (h : Reads w B size A n xs) : Reads w.drew B size A n xs := h

set_option maxRecDepth 100000 in
set_option maxHeartbeats 2000000 in
theorem refUpdateNo_any (v : DfaV) (d : Dfa) (B : Nat) (s : ByteArray) (A : Option Addr) (n c : Nat) (i j : Int) (t : ByteArray) (w : World) (hl : Reads w B 4 A n (toks (lexL d s))) (hB : B ≤ w.heap.size) (hn : n ≤ maxLen)
    (hs : s.size + t.size ≤ 1048576) (hno : Ed.ok s.size ⟨i, j, t⟩ = false) :
    Calls Try.prog 13 #[.agg #[.slice v.Ac v.nc v.cc, .slice v.An v.nn v.cn, .slice v.Aa v.na v.ca], .slice A n c, .agg #[.int .i64 i, .int .i64 j, .string t]] w
      fun e w' => e = .returned (.tuple #[.slice none 0 0, .agg #[.int .i64 0, .int .i64 0, .int .i64 0], .int .i64 2]) ∧ Below w.heap.size w w' := by
  obtain ⟨W, hW⟩ : ∃ W, W = ((w.alloc (.cells #[.slice v.Ac v.nc v.cc, .slice v.An v.nn v.cn, .slice v.Aa v.na v.ca] 25)).alloc (.cells #[.int .i64 i, .int .i64 j, .string t] 27)).alloc (.cells #[.int .i64 0, .int .i64 0, .int .i64 0] 35) := ⟨_, rfl⟩
  have hsW : W.heap.size = w.heap.size + 1 + 1 + 1 := by rw [hW]; simp
  have K2 : Blk W (w.heap.size + 1) 27 #[.int .i64 i, .int .i64 j, .string t] := by rw [hW]; exact (Blk.new' (w.alloc _) _ _ (by simp)).alloc _
  have K3 : Blk W (w.heap.size + 1 + 1) 35 #[.int .i64 0, .int .i64 0, .int .i64 0] := by rw [hW]; exact Blk.new' ((w.alloc _).alloc _) _ _ (by simp)
  have hb0 : Below w.heap.size w W := by rw [hW]; exact (((Below.refl _ _).alloc (Nat.le_refl _) _).alloc (by simp) _).alloc (by simp; omega) _
  have hlW : Reads W B 4 A n (toks (lexL d s)) := hl.below (hb0.mono hB)
  have WAIT := Lib.hid hW
  have HT := Lib.hid (textL_lexL d s)
  have HF : Hid (apF s ⟨i, j, t⟩ = 2) := by show apF s ⟨i, j, t⟩ = 2; simp [apF, hno]
  have HL := Lib.hid hlW
  have q0 := K2.cell 0
  have q1 := K2.cell 1
  have q2 := K2.cell 2
  simp at q0 q1 q2
  clear hW hl hlW
  go_enter Try.func13, Try.ntmps13
  go_wp2_with fail
  rw [← WAIT.out]
  refine (refText_any A n c B (lexL d s) W HL.out hn (by rw [HT.out]; omega)).mono ?_
  rw [HT.out]
  rintro e w3 ⟨rfl, rfl⟩
  go_wp2_with fail
  refine (repl_any s i j t W (by omega)).mono ?_
  rw [HF.out]
  rintro e w4 ⟨rfl, hb4⟩
  have K4 := K3.below hb4 (by omega)
  have z0 := K4.cell 0
  have z1 := K4.cell 1
  have z2 := K4.cell 2
  have g0 := K4.frozen 0
  have g1 := K4.frozen 1
  have g2 := K4.frozen 2
  simp at z0 z1 z2
  go_wp2_with fail
  have K5 := K4.set3 (.int .i64 0) (.int .i64 0) (.int .i64 0)
  refine bodyPost_ret (results_upd rfl rfl (K5.cell 0) (K5.cell 1) (K5.cell 2) rfl rfl) rfl ⟨rfl, ?_⟩
  exact (((hb0.trans (hb4.mono (by omega))).setCell (by simp; omega) _).setCell (by simp; omega) _).setCell (by simp; omega) _

set_option maxRecDepth 100000 in
set_option maxHeartbeats 4000000 in
theorem refUpdateOk_any (v : DfaV) (d : Dfa) (kk B : Nat) (s : ByteArray) (A : Option Addr) (n c P D : Nat) (t : ByteArray) (w : World) (hd : DfaAt w B v d) (ho : d.Ok kk) (hl : Reads w B 4 A n (toks (lexL d s))) (hB : B ≤ w.heap.size) (hnc : n ≤ c) (hc : c ≤ maxLen)
    (hs : s.size + t.size ≤ 1048576) (hok : Ed.ok s.size ⟨P, D, t⟩ = true) :
    Calls Try.prog 13 #[.agg #[.slice v.Ac v.nc v.cc, .slice v.An v.nn v.cn, .slice v.Aa v.na v.ca], .slice A n c, .agg #[.int .i64 P, .int .i64 D, .string t]] w (RetUpd d s ⟨P, D, t⟩ w) := by
  obtain ⟨W, hW⟩ : ∃ W, W = ((w.alloc (.cells #[.slice v.Ac v.nc v.cc, .slice v.An v.nn v.cn, .slice v.Aa v.na v.ca] 25)).alloc (.cells #[.int .i64 P, .int .i64 D, .string t] 27)).alloc (.cells #[.int .i64 0, .int .i64 0, .int .i64 0] 35) := ⟨_, rfl⟩
  have hsW : W.heap.size = w.heap.size + 1 + 1 + 1 := by rw [hW]; simp
  have K1 : Blk W (w.heap.size) 25 #[.slice v.Ac v.nc v.cc, .slice v.An v.nn v.cn, .slice v.Aa v.na v.ca] := by rw [hW]; exact ((Blk.new' w _ _ rfl).alloc _).alloc _
  have K2 : Blk W (w.heap.size + 1) 27 #[.int .i64 P, .int .i64 D, .string t] := by rw [hW]; exact (Blk.new' (w.alloc _) _ _ (by simp)).alloc _
  have K3 : Blk W (w.heap.size + 1 + 1) 35 #[.int .i64 0, .int .i64 0, .int .i64 0] := by rw [hW]; exact Blk.new' ((w.alloc _).alloc _) _ _ (by simp)
  have hb0 : Below w.heap.size w W := by rw [hW]; exact (((Below.refl _ _).alloc (Nat.le_refl _) _).alloc (by simp) _).alloc (by simp; omega) _
  have hlW : Reads W B 4 A n (toks (lexL d s)) := hl.below (hb0.mono hB)
  have hdW : DfaAt W B v d := hd.below (hb0.mono hB)
  have WAIT := Lib.hid hW
  have HT := Lib.hid (textL_lexL d s)
  have HF : Hid (apF s ⟨P, D, t⟩ = 0) := by show apF s ⟨P, D, t⟩ = 0; unfold apF; rw [if_pos hok]
  have HL := Lib.hid hlW
  have HD := Lib.hid hdW
  have hln := hl.len_toks
  obtain ⟨hk1, hk2, hk3, hk4⟩ := Ed.ok_iff.1 hok
  simp only at hk1 hk2 hk3 hk4
  have hsz := apT_size_ok hok
  simp only at hsz
  have hTs : Hid ((apT s ⟨P, D, t⟩).size ≤ 1048576) := by show (apT s ⟨P, D, t⟩).size ≤ 1048576; omega
  have hszA : s.size + t.size ≤ (apT s ⟨P, D, t⟩).size + D := by omega
  have hszB : (apT s ⟨P, D, t⟩).size + D ≤ s.size + t.size := by omega
  clear hsz
  have HST := Lib.hid (Stand.start (d := d) hok)
  have hpl := preL_le P (lexL d s)
  simp only at HST
  obtain ⟨f, hf⟩ : ∃ f, f = preL P (lexL d s) := ⟨_, rfl⟩
  have HPR := Lib.hid hf
  have hfL := (pre_take d s ⟨P, D, t⟩ hok f (Nat.le_of_eq hf)).1
  rw [← hf] at HST hpl
  unfold maxLen at hc
  have hn : n ≤ 9223372036854775807 := by omega
  clear hW hl hlW hd hdW hf
  go_enter Try.func13, Try.ntmps13
  go_wp2_with fail
  rw [← WAIT.out]
  refine (refText_any A n c B (lexL d s) W HL.out hn (by rw [HT.out]; omega)).mono ?_
  rw [HT.out]
  rintro e w3 ⟨rfl, rfl⟩
  have q0 := K2.cell 0
  have q1 := K2.cell 1
  have q2 := K2.cell 2
  simp at q0 q1 q2
  go_wp2_with fail
  refine (repl_any s P D t W (by omega)).mono ?_
  rw [HF.out]
  rintro e w4 ⟨rfl, hb4⟩
  have hs4 := hb4.size
  have N4 := K1.below hb4 (by omega)
  have C4 := K2.below hb4 (by omega)
  have K4 := K3.below hb4 (by omega)
  have HL4 := Lib.hid (HL.out.below (hb4.mono (by omega)))
  have HD4 := Lib.hid (HD.out.below (hb4.mono (by omega)))
  have n0 := N4.cell 0
  have n1 := N4.cell 1
  have n2 := N4.cell 2
  simp at n0 n1 n2
  clear q0 q1 q2 HL HD
  go_wp2_with fail
  refine (refLex_any v d kk B (apT s ⟨P, D, t⟩) w4 HD4.out (by omega) ho hTs.out).mono ?_
  rintro e w5 ⟨A', c', rfl, hc1, hc2, hr5, hb5⟩
  have hs5 := hb5.size
  have C5 := C4.below hb5 C4.lt
  have K5 := K4.below hb5 K4.lt
  have HL5 := Lib.hid (HL4.out.below (hb5.mono (by omega)))
  have HR5 := Lib.hid hr5
  have y0 := C5.cell 0
  have y1 := C5.cell 1
  have y2 := C5.cell 2
  simp at y0 y1 y2
  have hLs := lexL_len d (apT s ⟨P, D, t⟩)
  obtain ⟨nL, hnL⟩ : ∃ nL, nL = (lexL d (apT s ⟨P, D, t⟩)).length := ⟨_, rfl⟩
  have HNL := Lib.hid hnL
  rw [← hnL] at hc1 HR5 hLs hfL ⊢
  unfold maxLen at hc2
  have hts := hTs.out
  clear n0 n1 n2 hr5 hnL HL4 HD4
  go_wp2_with fail
  refine (refPrefix_any A n c B d s P w5 HL5.out hn (by omega)).mono ?_
  rw [← HPR.out]
  rintro e w6 ⟨rfl, n6, hw6⟩
  have hb6 : Below w5.heap.size w5 w6 := by rw [hw6]; exact below_drewN (Below.refl _ _) _
  have hle6 : w5.heap.size ≤ w6.heap.size := by rw [hw6]; exact Nat.le_refl _
  have C6 := (C5.below hb6 C5.lt).alloc (.cells #[.int .i64 f, .int .i64 0, .int .i64 0] 35)
  have K6 := (K5.below hb6 K5.lt).alloc (.cells #[.int .i64 f, .int .i64 0, .int .i64 0] 35)
  have X6 := Blk.new' w6 35 #[.int .i64 f, .int .i64 0, .int .i64 0] rfl
  have HL6 := Lib.hid ((HL5.out.below (hb6.mono (by omega))).alloc (show B ≤ w6.heap.size by omega) (.cells #[.int .i64 f, .int .i64 0, .int .i64 0] 35))
  have HR6 := Lib.hid ((HR5.out.below (hb6)).alloc hle6 (.cells #[.int .i64 f, .int .i64 0, .int .i64 0] 35))
  have hb7 : Below w.heap.size w (w6.alloc (.cells #[.int .i64 f, .int .i64 0, .int .i64 0] 35)) := (((hb0.trans (hb4.mono (by omega))).trans (hb5.mono (by omega))).trans (hb6.mono (by omega))).alloc (by omega) _
  have hs7 : w6.heap.size < (w6.alloc (.cells #[.int .i64 f, .int .i64 0, .int .i64 0] 35)).heap.size := by simp
  have u0 := C6.cell 0
  have u1 := C6.cell 1
  have u2 := C6.cell 2
  have x0 := X6.cell 0
  simp at u0 u1 u2
  clear hw6 y0 y1 y2 HR5 HL5
  go_wp2_with fail
  obtain ⟨w7, hw7⟩ : ∃ w7, w6.alloc (.cells #[.int .i64 f, .int .i64 0, .int .i64 0] 35) = w7 := ⟨_, rfl⟩
  rw [hw7] at C6 K6 X6 HL6 HR6 hb7 u0 u1 u2 x0 hs7
  rw [hw7]
  clear hw7
  have x1 := X6.cell 1
  have x2 := X6.cell 2
  simp at x0 x1 x2
  have xf1 := X6.frozen 1
  have xf2 := X6.frozen 2
  go_loop [15, 16, 17] (fun a b c => ∃ m : Nat, f ≤ m ∧ m ≤ nL ∧ a = .int .i64 m ∧ Hid (∀ m' k', m' < m → ¬ Meet d s ⟨P, D, t⟩ m' k')) (fun a _ _ => nL + 1 - (intOf a).toNat)
  case atStart => exact ⟨f, Nat.le_refl _, hfL, rfl, HST.out.none⟩
  case round =>
    obtain ⟨m, hfm, hmL, rfl, HNO⟩ := hrel
    have hmD : decide (m ≤ nL) = true := by simp [hmL]
    have hTe := lexL_end d (apT s ⟨P, D, t⟩)
    by_cases hlt : m < nL
    · have hltD : decide (m < nL) = true := by simp [hlt]
      obtain ⟨b, off, y, rfl, _, hy, h0, h1, h2, h3⟩ := HR6.out.tok_at hlt
      have hyp := lexL_pos d (apT s ⟨P, D, t⟩) hy
      have hos := (lexL_at d (apT s ⟨P, D, t⟩) hy).1
      obtain ⟨om, hom⟩ : ∃ om, om = offs (lexL d (apT s ⟨P, D, t⟩)) m := ⟨_, rfl⟩
      have HOM := Lib.hid hom
      rw [← hom] at hyp hos
      obtain ⟨yk, yp, yt, yl⟩ := y
      simp only at hyp h0 h1 h2 h3
      subst hyp
      clear hy hom hTe
      have hq0 : om = offs (lexL d (apT s ⟨P, D, t⟩)) m := HOM.out
      by_cases hq : om < P + t.size
      · have t1D : decide ((om : Int) < (P : Int) + (t.size : Int)) = true := by simp; omega
        have HQ := Lib.hid hq
        clear hq hq0
        go_wp2_with fail
        go_round
        case rel =>
          refine ⟨m + 1, by omega, by omega, by go_num, fun m' k' hm' hme => ?_⟩
          rcases Nat.lt_or_ge m' m with h6 | h6
          · exact HNO.out m' k' h6 hme
          · obtain rfl : m' = m := by omega
            have h7 := hme.q
            have h8 := HQ.out
            rw [← HOM.out] at h7
            simp only at h7
            omega
        case measure => simp [intOf]; omega
      · have t1D : decide ((om : Int) < (P : Int) + (t.size : Int)) = false := by simp; omega
        have t2D : decide ((om : Int) - ((t.size : Int) - (D : Int)) < (P : Int) + (D : Int)) = false := by simp; omega
        have HQ := Lib.hid hq
        clear hq hq0
        go_wp2_with fail
        refine (refStart_any A n c B d s ((om : Int) - ((t.size : Int) - (D : Int))) w7 HL6.out hn).mono ?_
        rintro e w8 ⟨⟨r, rfl, hr⟩, hw8⟩
        rw [hw8]
        clear hw8 w8
        rcases hr with ⟨k, rfl, hk, he⟩ | ⟨rfl, hne⟩
        · have hk0 : decide ((0 : Int) ≤ (k : Int)) = true := by simp
          have HME : Hid (First d s ⟨P, D, t⟩ m k) := by
            show First d s ⟨P, D, t⟩ m k
            have h1 := HOM.out
            have h2 := HQ.out
            refine ⟨⟨by rw [← HPR.out]; exact hfm, by rw [← HNL.out]; exact hmL, hk, ?_, ?_⟩, fun m' k' hme => ?_⟩
            · simp only [Int.toNat_natCast]; omega
            · simp only [Int.toNat_natCast]; omega
            · rcases Nat.lt_or_ge m' m with h6 | h6
              · exact absurd hme (HNO.out m' k' h6)
              · exact h6
          have hkn : k ≤ n := by omega
          have hfk := Meet.fk hok HME.out.meet
          simp only at hfk
          rw [← HPR.out] at hfk
          have X9 := X6.set12 (.int .i64 ((k : Int) - f)) (.int .i64 ((m : Int) - f))
          have K9 := (K6.far (p := ⟨w6.heap.size, 1, none⟩) (by simp; omega) (.int .i64 ((k : Int) - f))).far (p := ⟨w6.heap.size, 2, none⟩) (by simp; omega) (.int .i64 ((m : Int) - f))
          have HR9 := Lib.hid (HR6.out.set_far12 X6 (.int .i64 ((k : Int) - f)) (.int .i64 ((m : Int) - f)))
          have hb9 := (hb7.setCell (p := ⟨w6.heap.size, 1, none⟩) (by simp; omega) (.int .i64 ((k : Int) - f))).setCell (p := ⟨w6.heap.size, 2, none⟩) (by simp; omega) (.int .i64 ((m : Int) - f))
          have a0 := X9.cell 0
          have a1 := X9.cell 1
          have a2 := X9.cell 2
          have z0 := K9.cell 0
          have z1 := K9.cell 1
          have z2 := K9.cell 2
          have g0 := K9.frozen 0
          have g1 := K9.frozen 1
          have g2 := K9.frozen 2
          simp at a0 a1 a2 z0 z1 z2
          clear hk he
          go_wp2_with fail
          obtain ⟨w9, hw9⟩ : ∃ w9, (w7.setCell ⟨w6.heap.size, 1, none⟩ (.int .i64 ((k : Int) - f))).setCell ⟨w6.heap.size, 2, none⟩ (.int .i64 ((m : Int) - f)) = w9 := ⟨_, rfl⟩
          have hs9 : w7.heap.size = w9.heap.size := by rw [← hw9]; simp
          rw [hw9] at X9 K9 HR9 hb9 a0 a1 a2 z0 z1 z2 g0 g1 g2
          rw [hw9]
          clear hw9
          go_region
          all_goals go_wp2_with fail
          have K10 := blk_drew (K9.set3 (.int .i64 f) (.int .i64 ((k : Int) - f)) (.int .i64 ((m : Int) - f)))
          have R10 := reads_drew (HR9.out.set_far3 K9 (.int .i64 f) (.int .i64 ((k : Int) - f)) (.int .i64 ((m : Int) - f)))
          have hb10 := ((((hb9.setCell (p := ⟨w.heap.size + 1 + 1, 0, none⟩) (by simp; omega) (.int .i64 f)).setCell (p := ⟨w.heap.size + 1 + 1, 1, none⟩) (by simp; omega) (.int .i64 ((k : Int) - f))).setCell (p := ⟨w.heap.size + 1 + 1, 2, none⟩) (by simp; omega) (.int .i64 ((m : Int) - f)))).drew
          refine bodyPost_ret (results_upd rfl rfl (K10.cell 0) (K10.cell 1) (K10.cell 2) rfl rfl) rfl ?_
          have hpre : preL (⟨P, D, t⟩ : Ed).pos (lexL d s) = f := HPR.out.symm
          refine ⟨(some ⟨b, off, none⟩), c', m, k, ?_, ?_, hc2, ?_, HME.out, hb10⟩
          · rw [hpre, ← HNL.out]; rfl
          · rw [← HNL.out]; exact hc1
          · rw [← HNL.out]; exact R10.more (by show w5.heap.size ≤ (((w9.setCell _ _).setCell _ _).setCell _ _).heap.size; simp; omega)
        · have hk0 : decide ((0 : Int) ≤ -1) = false := by decide
          have HNE := Lib.hid hne
          clear hne
          go_wp2_with fail
          go_round
          case rel =>
            refine ⟨m + 1, by omega, by omega, by go_num, fun m' k' hm' hme => ?_⟩
            rcases Nat.lt_or_ge m' m with h6 | h6
            · exact HNO.out m' k' h6 hme
            · obtain rfl : m' = m := by omega
              have h7 := hme.eq
              rw [← HOM.out] at h7
              simp only [Int.toNat_natCast] at h7
              exact HNE.out k' hme.kl (by omega)
          case measure => simp [intOf]; omega
    · have hltD : decide (m < nL) = false := by simp [hlt]
      obtain rfl : m = nL := by omega
      have HOM : Hid ((apT s ⟨P, D, t⟩).size = offs (lexL d (apT s ⟨P, D, t⟩)) m) := by show _ = _; rw [HNL.out, hTe]
      clear hTe
      have hq0 : (apT s ⟨P, D, t⟩).size = offs (lexL d (apT s ⟨P, D, t⟩)) m := HOM.out
      by_cases hq : (apT s ⟨P, D, t⟩).size < P + t.size
      · omega
      · have t1D : decide (((apT s ⟨P, D, t⟩).size : Int) < (P : Int) + (t.size : Int)) = false := by simp; omega
        have t2D : decide (((apT s ⟨P, D, t⟩).size : Int) - ((t.size : Int) - (D : Int)) < (P : Int) + (D : Int)) = false := by simp; omega
        have HQ := Lib.hid hq
        clear hq hq0
        go_wp2_with fail
        refine (refStart_any A n c B d s (((apT s ⟨P, D, t⟩).size : Int) - ((t.size : Int) - (D : Int))) w7 HL6.out hn).mono ?_
        rintro e w8 ⟨⟨r, rfl, hr⟩, hw8⟩
        rw [hw8]
        clear hw8 w8
        rcases hr with ⟨k, rfl, hk, he⟩ | ⟨rfl, hne⟩
        · have hk0 : decide ((0 : Int) ≤ (k : Int)) = true := by simp
          have HME : Hid (First d s ⟨P, D, t⟩ m k) := by
            show First d s ⟨P, D, t⟩ m k
            have h1 := HOM.out
            have h2 := HQ.out
            refine ⟨⟨by rw [← HPR.out]; exact hfm, by rw [← HNL.out]; exact hmL, hk, ?_, ?_⟩, fun m' k' hme => ?_⟩
            · simp only [Int.toNat_natCast]; omega
            · simp only [Int.toNat_natCast]; omega
            · rcases Nat.lt_or_ge m' m with h6 | h6
              · exact absurd hme (HNO.out m' k' h6)
              · exact h6
          have hkn : k ≤ n := by omega
          have hfk := Meet.fk hok HME.out.meet
          simp only at hfk
          rw [← HPR.out] at hfk
          have X9 := X6.set12 (.int .i64 ((k : Int) - f)) (.int .i64 ((m : Int) - f))
          have K9 := (K6.far (p := ⟨w6.heap.size, 1, none⟩) (by simp; omega) (.int .i64 ((k : Int) - f))).far (p := ⟨w6.heap.size, 2, none⟩) (by simp; omega) (.int .i64 ((m : Int) - f))
          have HR9 := Lib.hid (HR6.out.set_far12 X6 (.int .i64 ((k : Int) - f)) (.int .i64 ((m : Int) - f)))
          have hb9 := (hb7.setCell (p := ⟨w6.heap.size, 1, none⟩) (by simp; omega) (.int .i64 ((k : Int) - f))).setCell (p := ⟨w6.heap.size, 2, none⟩) (by simp; omega) (.int .i64 ((m : Int) - f))
          have a0 := X9.cell 0
          have a1 := X9.cell 1
          have a2 := X9.cell 2
          have z0 := K9.cell 0
          have z1 := K9.cell 1
          have z2 := K9.cell 2
          have g0 := K9.frozen 0
          have g1 := K9.frozen 1
          have g2 := K9.frozen 2
          simp at a0 a1 a2 z0 z1 z2
          clear hk he
          go_wp2_with fail
          obtain ⟨w9, hw9⟩ : ∃ w9, (w7.setCell ⟨w6.heap.size, 1, none⟩ (.int .i64 ((k : Int) - f))).setCell ⟨w6.heap.size, 2, none⟩ (.int .i64 ((m : Int) - f)) = w9 := ⟨_, rfl⟩
          have hs9 : w7.heap.size = w9.heap.size := by rw [← hw9]; simp
          rw [hw9] at X9 K9 HR9 hb9 a0 a1 a2 z0 z1 z2 g0 g1 g2
          rw [hw9]
          clear hw9
          go_region
          all_goals go_wp2_with fail
          have K10 := blk_drew (K9.set3 (.int .i64 f) (.int .i64 ((k : Int) - f)) (.int .i64 ((m : Int) - f)))
          have R10 := reads_drew (HR9.out.set_far3 K9 (.int .i64 f) (.int .i64 ((k : Int) - f)) (.int .i64 ((m : Int) - f)))
          have hb10 := ((((hb9.setCell (p := ⟨w.heap.size + 1 + 1, 0, none⟩) (by simp; omega) (.int .i64 f)).setCell (p := ⟨w.heap.size + 1 + 1, 1, none⟩) (by simp; omega) (.int .i64 ((k : Int) - f))).setCell (p := ⟨w.heap.size + 1 + 1, 2, none⟩) (by simp; omega) (.int .i64 ((m : Int) - f)))).drew
          refine bodyPost_ret (results_upd rfl rfl (K10.cell 0) (K10.cell 1) (K10.cell 2) rfl rfl) rfl ?_
          have hpre : preL (⟨P, D, t⟩ : Ed).pos (lexL d s) = f := HPR.out.symm
          refine ⟨A', c', m, k, ?_, ?_, hc2, ?_, HME.out, hb10⟩
          · rw [hpre, ← HNL.out]; rfl
          · rw [← HNL.out]; exact hc1
          · rw [← HNL.out]; exact R10.more (by show w5.heap.size ≤ (((w9.setCell _ _).setCell _ _).setCell _ _).heap.size; simp; omega)
        · exfalso
          have h1 := HOM.out
          have h2 := lexL_end d s
          refine hne (lexL d s).length (Nat.le_refl _) ?_
          rw [h2]
          omega
end Go.Proofs.Ythpdfgfefmoaaaa
