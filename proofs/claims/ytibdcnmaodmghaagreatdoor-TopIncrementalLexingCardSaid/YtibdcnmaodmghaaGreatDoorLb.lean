/- Relexing: Update. -/
import Derived.Test.YtibdcnmaodmghaaGreatDoorLa
import Derived.Deep.DeepCutAuto
import Derived.Deep.CutBlock
section
namespace Go.Proofs.YtibdcnmaodmghaaGreatDoor
open Go.RowKit
set_option maxRecDepth 20000

set_option maxRecDepth 100000 in
set_option maxHeartbeats 2000000 in
theorem updateNo_any (v : DfaV) (d : Dfa) (B : Nat) (s : ByteArray) (A : Option Addr) (n c : Nat) (i j : Int) (t : ByteArray) (w : World) (hl : Reads w B 4 A n (toks (lexL d s))) (hB : B ≤ w.heap.size) (hn : n ≤ maxLen)
    (hs : s.size + t.size ≤ 1048576) (hno : Ed.ok s.size ⟨i, j, t⟩ = false) :
    Calls Tryz.prog 14 #[.agg #[.slice v.Ac v.nc v.cc, .slice v.An v.nn v.cn, .slice v.Aa v.na v.ca], .slice A n c, .agg #[.int .i64 i, .int .i64 j, .string t]] w
      fun e w' => e = .returned (.tuple #[.slice none 0 0, .agg #[.int .i64 0, .int .i64 0, .int .i64 0], .int .i64 2]) ∧ Below w.heap.size w w' := by
  obtain ⟨W, hW⟩ : ∃ W, W = ((w.alloc (.cells #[.slice v.Ac v.nc v.cc, .slice v.An v.nn v.cn, .slice v.Aa v.na v.ca] 27)).alloc (.cells #[.int .i64 i, .int .i64 j, .string t] 44)).alloc (.cells #[.int .i64 0, .int .i64 0, .int .i64 0] 50) := ⟨_, rfl⟩
  have hsW : W.heap.size = w.heap.size + 1 + 1 + 1 := by rw [hW]; simp
  have K2 : Blk W (w.heap.size + 1) 44 #[.int .i64 i, .int .i64 j, .string t] := by rw [hW]; exact (Blk.new' (w.alloc _) _ _ (by simp)).alloc _
  have K3 : Blk W (w.heap.size + 1 + 1) 50 #[.int .i64 0, .int .i64 0, .int .i64 0] := by rw [hW]; exact Blk.new' ((w.alloc _).alloc _) _ _ (by simp)
  have hb0 : Below w.heap.size w W := by rw [hW]; exact (((Below.refl _ _).alloc (Nat.le_refl _) _).alloc (by simp) _).alloc (by simp; omega) _
  have hlW : Reads W B 4 A n (toks (lexL d s)) := hl.below (hb0.mono hB)
  have WAIT := Lib.hid hW
  have HT := Lib.hid (textL_lexL d s)
  have HF : Hid (apF s ⟨i, j, t⟩ = 2) := by show apF s ⟨i, j, t⟩ = 2; simp [apF, hno]
  have HL := Lib.hid hlW
  have q0 := K2.cell 0
  have q1 := K2.cell 1
  have q2 := K2.cell 2
  simp at q0 q1 q2
  clear hW hl hlW
  go_enter Tryz.func14, Tryz.ntmps14
  go_wp2_with fail
  rw [← WAIT.out]
  go_region_held3 (fun w' => w'.cell? ⟨w.heap.size + 1, 0, none⟩ = some (.int .i64 i) ∧ w'.cell? ⟨w.heap.size + 1, 1, none⟩ = some (.int .i64 j) ∧ w'.cell? ⟨w.heap.size + 1, 2, none⟩ = some (.string t) ∧ Below W.heap.size W w')
    (first | exact ⟨y0, y1, y2, Y3⟩ | exact ⟨x0, x1, x2, X3⟩ | exact ⟨q0, q1, q2, (Below.refl _ _).drew⟩)
    (first
      | (go_at_call 18; refine (text_any A n c B (lexL d s) W.drew (HL.out.drew) (show B ≤ W.heap.size by omega) hn (by rw [HT.out]; omega)).mono ?_; rw [HT.out]; rintro e w3 ⟨rfl, hb3⟩; have X3 : Below W.heap.size W w3 := ((Below.refl _ W).drew).trans hb3; have C3 := K2.below X3 (by omega); have x0 := C3.cell 0; have x1 := C3.cell 1; have x2 := C3.cell 2; simp at x0 x1 x2)
      | (go_at_call 12; refine (apply_any s i j t w3 (by omega)).mono ?_; rw [HF.out]; rintro e w4 ⟨rfl, hb4⟩; have Y3 : Below W.heap.size W w4 := X3.trans (hb4.mono X3.size); have C4 := K2.below Y3 (by omega); have y0 := C4.cell 0; have y1 := C4.cell 1; have y2 := C4.cell 2; simp at y0 y1 y2))
  have K4 := K3.below Y3 (by omega)
  have z0 := K4.cell 0
  have z1 := K4.cell 1
  have z2 := K4.cell 2
  have g0 := K4.frozen 0
  have g1 := K4.frozen 1
  have g2 := K4.frozen 2
  simp at z0 z1 z2
  go_wp2_with fail
  have K5 := K4.set3 (.int .i64 0) (.int .i64 0) (.int .i64 0)
  refine bodyPost_ret (results_upd rfl rfl (K5.cell 0) (K5.cell 1) (K5.cell 2) rfl rfl) rfl ⟨rfl, ?_⟩
  exact (((hb0.trans (Y3.mono (by omega))).setCell (by simp; omega) _).setCell (by simp; omega) _).setCell (by simp; omega) _

def RetUpd (d : Dfa) (s : ByteArray) (e : Ed) (w : World) (x : Ending) (w' : World) : Prop :=
  ∃ (A : Option Addr) (c m k : Nat), x = .returned (.tuple #[.slice A (lexL d (apT s e)).length c, .agg #[.int .i64 (preL e.pos (lexL d s) : Nat), .int .i64 ((k : Int) - (preL e.pos (lexL d s) : Nat)), .int .i64 ((m : Int) - (preL e.pos (lexL d s) : Nat))], .int .i64 0]) ∧
    (lexL d (apT s e)).length ≤ c ∧ c ≤ maxLen ∧ Reads w' w'.heap.size 4 A (lexL d (apT s e)).length (toks (lexL d (apT s e))) ∧ First d s e m k ∧ Below w.heap.size w w' ∧ ∀ b off, A = some ⟨b, off, none⟩ → w.heap.size ≤ b

set_option maxRecDepth 100000 in
set_option maxHeartbeats 4000000 in
theorem updateOk_any (v : DfaV) (d : Dfa) (kk B : Nat) (s : ByteArray) (A : Option Addr) (n c P D : Nat) (t : ByteArray) (w : World) (hd : DfaAt w B v d) (ho : d.Ok kk) (hl : Reads w B 4 A n (toks (lexL d s))) (hB : B ≤ w.heap.size) (hnc : n ≤ c) (hc : c ≤ maxLen)
    (hs : s.size + t.size ≤ 1048576) (hok : Ed.ok s.size ⟨P, D, t⟩ = true) :
    Calls Tryz.prog 14 #[.agg #[.slice v.Ac v.nc v.cc, .slice v.An v.nn v.cn, .slice v.Aa v.na v.ca], .slice A n c, .agg #[.int .i64 P, .int .i64 D, .string t]] w (RetUpd d s ⟨P, D, t⟩ w) := by
  obtain ⟨i0, hi0, hz0, hz1, hz2⟩ := info_parts Tryz.infoTok
  obtain ⟨W, hW⟩ : ∃ W, W = ((w.alloc (.cells #[.slice v.Ac v.nc v.cc, .slice v.An v.nn v.cn, .slice v.Aa v.na v.ca] 27)).alloc (.cells #[.int .i64 P, .int .i64 D, .string t] 44)).alloc (.cells #[.int .i64 0, .int .i64 0, .int .i64 0] 50) := ⟨_, rfl⟩
  have hsW : W.heap.size = w.heap.size + 1 + 1 + 1 := by rw [hW]; simp
  have K1 : Blk W (w.heap.size) 27 #[.slice v.Ac v.nc v.cc, .slice v.An v.nn v.cn, .slice v.Aa v.na v.ca] := by rw [hW]; exact ((Blk.new' w _ _ rfl).alloc _).alloc _
  have K2 : Blk W (w.heap.size + 1) 44 #[.int .i64 P, .int .i64 D, .string t] := by rw [hW]; exact (Blk.new' (w.alloc _) _ _ (by simp)).alloc _
  have K3 : Blk W (w.heap.size + 1 + 1) 50 #[.int .i64 0, .int .i64 0, .int .i64 0] := by rw [hW]; exact Blk.new' ((w.alloc _).alloc _) _ _ (by simp)
  have hb0 : Below w.heap.size w W := by rw [hW]; exact (((Below.refl _ _).alloc (Nat.le_refl _) _).alloc (by simp) _).alloc (by simp; omega) _
  have hlW : Reads W B 4 A n (toks (lexL d s)) := hl.below (hb0.mono hB)
  have hdW : DfaAt W B v d := hd.below (hb0.mono hB)
  have WAIT := Lib.hid hW
  have HT := Lib.hid (textL_lexL d s)
  have HF : Hid (apF s ⟨P, D, t⟩ = 0) := by show apF s ⟨P, D, t⟩ = 0; unfold apF; rw [if_pos hok]
  have HL := Lib.hid hlW
  have HD := Lib.hid hdW
  have hln := hl.len_toks
  have q0 := K2.cell 0
  have q1 := K2.cell 1
  have q2 := K2.cell 2
  simp at q0 q1 q2
  obtain ⟨hk1, hk2, hk3, hk4⟩ := Ed.ok_iff.1 hok
  simp only at hk1 hk2 hk3 hk4
  have hsz := apT_size_ok hok
  simp only at hsz
  have HSZ := Lib.hid hsz
  have hTs : Hid ((apT s ⟨P, D, t⟩).size ≤ 1048576) := by show (apT s ⟨P, D, t⟩).size ≤ 1048576; omega
  have HST := Lib.hid (Stand.start (d := d) hok)
  have hpl := preL_le P (lexL d s)
  simp only at HST
  obtain ⟨f, hf⟩ : ∃ f, f = preL P (lexL d s) := ⟨_, rfl⟩
  have HPR := Lib.hid hf
  rw [← hf] at HST hpl
  unfold maxLen at hc
  have hn : n ≤ 9223372036854775807 := by omega
  clear hW hl hlW hd hdW hsz hf
  go_enter Tryz.func14, Tryz.ntmps14
  go_wp2_with fail
  rw [← WAIT.out]
  go_region_held3 (fun w' => w'.cell? ⟨w.heap.size + 1, 0, none⟩ = some (.int .i64 P) ∧ w'.cell? ⟨w.heap.size + 1, 1, none⟩ = some (.int .i64 D) ∧ w'.cell? ⟨w.heap.size + 1, 2, none⟩ = some (.string t) ∧ Below W.heap.size W w')
    (first | exact ⟨y0, y1, y2, Y3⟩ | exact ⟨x0, x1, x2, X3⟩ | exact ⟨q0, q1, q2, (Below.refl _ _).drew⟩)
    (first
      | (go_at_call 18; refine (text_any A n c B (lexL d s) W.drew (HL.out.drew) (show B ≤ W.heap.size by omega) hn (by rw [HT.out]; omega)).mono ?_; rw [HT.out]; rintro e w3 ⟨rfl, hb3⟩; have X3 : Below W.heap.size W w3 := ((Below.refl _ W).drew).trans hb3; have C3 := K2.below X3 (by omega); have x0 := C3.cell 0; have x1 := C3.cell 1; have x2 := C3.cell 2; simp at x0 x1 x2)
      | (go_at_call 12; refine (apply_any s P D t w3 (by omega)).mono ?_; rw [HF.out]; rintro e w4 ⟨rfl, hb4⟩; have Y3 : Below W.heap.size W w4 := X3.trans (hb4.mono X3.size); have C4 := K2.below Y3 (by omega); have y0 := C4.cell 0; have y1 := C4.cell 1; have y2 := C4.cell 2; simp at y0 y1 y2))
  have N1 := K1.below Y3 (by omega)
  have HL4 := HL.out.below (Y3.mono (by omega))
  have HD4 := HD.out.below (Y3.mono (by omega))
  have hs4 := Y3.size
  have n0 := N1.cell 0
  have n1 := N1.cell 1
  have n2 := N1.cell 2
  simp at n0 n1 n2
  have HLD := Lib.hid HL4
  have HDD := Lib.hid HD4
  clear x0 x1 x2 q0 q1 q2 hb3 hb4 C3 X3 HL HD HL4 HD4
  -- the scanner
  go_wp2_with fail
  refine (scanner_any v (apT s ⟨P, D, t⟩) w4).mono ?_
  rintro e w5 ⟨rfl, D5, S5, hb5⟩
  have Y5 : Below W.heap.size W w5 := Y3.trans (hb5.mono hs4)
  have hs5 := hb5.size
  have C5 := C4.below hb5 (by omega)
  have K5 := (K3.below Y3 (by omega)).below hb5 (by omega)
  have y0 := C5.cell 0
  have y1 := C5.cell 1
  have y2 := C5.cell 2
  simp at y0 y1 y2
  have HL5 := Lib.hid (HLD.out.below (hb5.mono (by omega)))
  have HD5 := Lib.hid (HDD.out.below (hb5.mono (by omega)))
  clear n0 n1 n2 N1
  -- the prefix
  go_wp2_with fail
  refine (prefix_any A n c B d s P w5 HL5.out hn (by omega)).mono ?_
  rw [← HPR.out]
  rintro e w6 ⟨rfl, n6, hw6⟩
  have hb6 : Below w5.heap.size w5 w6 := by rw [hw6]; exact below_drewN (Below.refl _ _) _
  have hs6 : w6.heap.size = w5.heap.size := by rw [hw6]; rfl
  have Y6 : Below W.heap.size W w6 := Y5.trans (hb6.mono (by omega))
  have C6 := C5.below hb6 C5.lt
  have K6 := K5.below hb6 K5.lt
  have D6 := D5.below hb6 D5.lt
  have S6 := S5.below hb6 S5.lt
  have HL6 := Lib.hid (HL5.out.below (hb6.mono (by omega)))
  have HD6 := Lib.hid (HD5.out.below (hb6.mono (by omega)))
  have u0 := C6.cell 0
  have u1 := C6.cell 1
  have u2 := C6.cell 2
  simp at u0 u1 u2
  clear hw6 y0 y1 y2 hb5 HLD HDD
  -- where the scan begins
  go_wp2_with fail
  refine (start_any A n c B f d s w6 HL6.out hn (by omega) (by omega)).mono ?_
  rintro e w7 ⟨rfl, hb7⟩
  have hs7 := hb7.size
  have Y7 : Below W.heap.size W w7 := Y6.trans (hb7.mono (by omega))
  have C7 := C6.below hb7 C6.lt
  have K7 := K6.below hb7 K6.lt
  have D7 := D6.below hb7 D6.lt
  have S7 := S6.below hb7 S6.lt
  have HL7 := Lib.hid (HL6.out.below (hb7.mono (by omega)))
  have HD7 := Lib.hid (HD6.out.below (hb7.mono (by omega)))
  have C7l := C7.lt
  have S7l := S7.lt
  have D7l := D7.lt
  have K7l := K7.lt
  clear u0 u1 u2 hb6 hb7
  have hfn : f ≤ n := by omega
  have hns : n ≤ s.size := by have := lexL_len d s; omega
  have hfc : (f : Int) ≤ (c : Int) := by omega
  go_wp2_with (at_builtin; go_must (refine wpList_append_any rfl _ _ 41 rfl w7.heap.size 110 i0 (.agg #[.int .i64 0, .int .i64 0, .string ⟨#[]⟩, .int .i64 0]) 4 40 Tryz.underlying41 hi0 hz0 hz1 hz2 rfl (by decide) (.slice none 0 0) 0 [] rfl (World.ownsRow_nil _ _ _ _) B _ f _ (toks ((lexL d s).take f)) rfl ?hr (fun u hu => toks_one hu) ?c3 ?c4 ?c5 ?_))
  case hr => exact HL7.out.front hfn
  case c3 => unfold maxLen; omega
  case c4 => omega
  case c5 => omega
  intro ov w8 hown hgrow hob
  have hb8 : Below w7.heap.size w7 w8 := (Below.refl _ _).grown hgrow (Nat.le_refl _) (fun k hk => by simp [Value.ownBlock] at hk)
  clear hgrow hob
  have HO8 : Hid ((w8.ownsRow w7.heap.size 110 4 ov f (toks ((lexL d (apT s ⟨P, D, t⟩)).take f)))) := by
    show w8.ownsRow w7.heap.size 110 4 ov f (toks ((lexL d (apT s ⟨P, D, t⟩)).take f))
    have := (pre_take d s ⟨P, D, t⟩ hok f (Nat.le_of_eq HPR.out)).2
    rw [this]; exact hown
  have hoff : offs (lexL d s) f ≤ s.size := offs_le d s (by omega)
  have hoff2 : f ≤ offs (lexL d s) f := offs_ge d s (by omega)
  clear hown
  obtain ⟨om0, hom0⟩ : ∃ om0, om0 = offs (lexL d s) f := ⟨_, rfl⟩
  rw [← hom0] at HST hoff hoff2 ⊢
  clear hom0
  go_wp2_with fail
  go_loopw [14, 15, 16] (fun a b sv wr => ∃ (om m k : Nat), k ≤ n ∧ m ≤ om ∧ om ≤ 1048576 ∧ a = .int .i64 om ∧ b = .int .i64 k ∧ wr.ownsRow w7.heap.size 110 4 sv m (toks ((lexL d (apT s ⟨P, D, t⟩)).take m)) ∧ Below w7.heap.size w7 wr ∧
      Hid (Stand d s ⟨P, D, t⟩ om m k)) (fun a _ _ _ => 1048576 - (intOf a).toNat)
  case atStart => exact ⟨om0, f, f, hfn, hoff2, by omega, rfl, rfl, HO8.out, hb8, HST⟩
  case round =>
    obtain ⟨om, m, k, hk, hmo, hom, rfl, rfl, hown, hbr, HS⟩ := hrel
    have HOW := Lib.hid hown
    have Cr := C7.below hbr C7l
    have c0 := Cr.cell 0
    have c1 := Cr.cell 1
    have c2 := Cr.cell 2
    simp at c0 c1 c2
    have HLr := Lib.hid (HL7.out.below (hbr.mono (by omega)))
    clear HST HO8 hown
    go_upto_block 2 with fail
    go_cut [15] (fun b wx => ∃ k2 : Nat, k2 ≤ n ∧ b = .int .i64 k2 ∧ (∃ nd, wx = wr.drewN nd) ∧ Hid (Stand d s ⟨P, D, t⟩ om m k2) ∧ Hid (k2 < (lexL d s).length → ¬ Passed d s ⟨P, D, t⟩ m k2))
    case first =>
      go_wp2_with fail
      go_loopw [15] (fun b wx => ∃ k2 : Nat, k2 ≤ n ∧ b = .int .i64 k2 ∧ (∃ nd, wx = wr.drewN nd) ∧ Hid (Stand d s ⟨P, D, t⟩ om m k2)) (fun b _ => n - (intOf b).toNat)
      case atStart => exact ⟨k, hk, rfl, ⟨0, rfl⟩, HS⟩
      case round =>
        obtain ⟨k2, hk2, rfl, ⟨nd, rfl⟩, HS2⟩ := hrel
        by_cases hlt : k2 < n
        · have hltD : decide (k2 < n) = true := by simp [hlt]
          obtain ⟨b, off, y, rfl, _, hy, h0, h1, h2, h3⟩ := HLr.out.tok_at hlt
          have hyp := lexL_pos d s hy
          have hos := (lexL_at d s hy).1
          have HPI := Lib.hid (passed_iff (d := d) (s := s) (P := P) (D := D) (m := m) (k := k2) (t := t))
          have hom2 := HS2.out.om
          rw [← hom2] at HPI
          generalize offs (lexL d s) k2 = o at hyp hos HPI
          obtain ⟨yk, yp, yt, yl⟩ := y
          simp only at hyp h0 h1 h2 h3
          subst hyp
          clear hy hom2
          by_cases t1 : o < P + D
          · have t1D : decide ((o : Int) < (P : Int) + (D : Int)) = true := by simp; omega
            go_wp2_with fail
            go_quiet (fail)
            go_wp2_with fail
            go_roundw
            case rel => exact ⟨k2 + 1, by omega, by go_num, by (try simp only [World.drewN_drewN]); exact drew1 _ _, HS2.out.skip (by omega) (HPI.out.2 (Or.inl t1))⟩
            case measure => simp [intOf]; omega
          · have t1D : decide ((o : Int) < (P : Int) + (D : Int)) = false := by simp; omega
            by_cases t2 : o + t.size < om + D
            · have t2D : decide ((o : Int) + ((t.size : Int) - (D : Int)) < (om : Int)) = true := by simp; omega
              go_wp2_with fail
              go_quiet (fail)
              go_wp2_with fail
              go_roundw
              case rel => exact ⟨k2 + 1, by omega, by go_num, by (try simp only [World.drewN_drewN]); exact drew1 _ _, HS2.out.skip (by omega) (HPI.out.2 (Or.inr t2))⟩
              case measure => simp [intOf]; omega
            · have t2D : decide ((o : Int) + ((t.size : Int) - (D : Int)) < (om : Int)) = false := by simp; omega
              have HNP : Hid (¬ Passed d s ⟨P, D, t⟩ m k2) := by
                show ¬ Passed d s ⟨P, D, t⟩ m k2
                rw [HPI.out]; omega
              go_wp2_with fail
              go_quiet (fail)
              go_wp2_with fail
              go_meet
              exact ⟨k2, hk2, rfl, by (try simp only [World.drewN_drewN]); exact drew1 _ _, HS2, fun _ => HNP.out⟩
        · have hltD : decide (k2 < n) = false := by simp [hlt]
          have hltI : ¬ (k2 : Int) < (n : Int) := by omega
          go_wp2_with fail
          go_quiet (fail)
          go_wp2_with fail
          go_meet
          exact ⟨k2, hk2, rfl, by (try simp only [World.drewN_drewN]); exact drew1 _ _, HS2, fun h => by omega⟩
    case rest =>
      obtain ⟨k2, hk2, rfl, ⟨nd, hw9⟩, HS2, HN2⟩ := hcut
      rename World => w9
      have hb9 : Below w7.heap.size w7 w9 := by rw [hw9]; exact below_drewN hbr _
      have HO9 : Hid (w9.ownsRow w7.heap.size 110 4 u16 m (toks ((lexL d (apT s ⟨P, D, t⟩)).take m))) := by rw [hw9]; exact own_drewN HOW.out nd
      clear hw9 Cr c0 c1 c2 HLr hbr HOW HS
      have hs9 := hb9.size
      have C9 := C7.below hb9 C7l
      have c0 := C9.cell 0
      have c1 := C9.cell 1
      have c2 := C9.cell 2
      simp at c0 c1 c2
      have HL9 := Lib.hid (HL7.out.below (hb9.mono (by omega)))
      go_upto_region 11 with fail
      go_cut [99] (fun x wx => ∃ b : Bool, x = .bool b ∧ Below w9.heap.size w9 wx ∧ Hid (b = true ↔ (P + t.size ≤ om ∧ offs (lexL d s) k2 + t.size = om + D)))
      case first =>
        have hcall := Lib.hid (start_any A n c B k2 d s w9 HL9.out hn (by omega) hk2)
        have hol : Hid (offs (lexL d s) k2 ≤ 1048576) := by
          show offs (lexL d s) k2 ≤ 1048576
          have := offs_le d s (k := k2) (by omega); omega
        obtain ⟨o2, ho2⟩ : ∃ o2, o2 = offs (lexL d s) k2 := ⟨_, rfl⟩
        rw [← ho2] at hcall hol
        have HO2 := Lib.hid ho2
        clear ho2
        have hol2 := hol.out
        by_cases hq : P + t.size ≤ om
        · have hqD : decide ((P : Int) + (t.size : Int) ≤ (om : Int)) = true := by simp; omega
          by_cases he : o2 + t.size = om + D
          · have heD : ((o2 : Int) + ((t.size : Int) - (D : Int)) == (om : Int)) = true := by rw [beq_iff_eq]; omega
            have HE := Lib.hid he
            clear he
            go_wp2_with (go_at_call 41; refine hcall.out.mono ?_; rintro e w10 ⟨rfl, hb10⟩)
            go_meet
            exact ⟨true, rfl, hb10, by show _ ↔ _; rw [← HO2.out]; simp [hq, HE.out]⟩
          · have heD : ((o2 : Int) + ((t.size : Int) - (D : Int)) == (om : Int)) = false := by rw [beq_eq_false_iff_ne]; omega
            have HE := Lib.hid he
            clear he
            go_wp2_with (go_at_call 41; refine hcall.out.mono ?_; rintro e w10 ⟨rfl, hb10⟩)
            go_meet
            exact ⟨false, rfl, hb10, by show _ ↔ _; rw [← HO2.out]; simp [HE.out]⟩
        · have hqD : decide ((P : Int) + (t.size : Int) ≤ (om : Int)) = false := by simp; omega
          have HQ := Lib.hid hq
          clear hq
          go_wp2_with fail
          go_meet
          exact ⟨false, rfl, Below.refl _ _, by show _ ↔ _; simp [HQ.out]⟩
      case rest =>
        obtain ⟨b, rfl, hb10, HB⟩ := hcut
        rename World => w10
        have hs10 := hb10.size
        have HO10 := Lib.hid (own_below HO9.out hb10)
        have hb10' : Below w7.heap.size w7 w10 := hb9.trans (hb10.mono hs9)
        clear C9 c0 c1 c2 HL9 HO9 hb9 hb10
        have C10 := C7.below hb10' C7l
        have S10 := S7.below hb10' S7l
        have D10 := D7.below hb10' D7l
        have K10 := K7.below hb10' K7l
        have c0 := C10.cell 0
        have c1 := C10.cell 1
        have c2 := C10.cell 2
        simp at c0 c1 c2
        have HL10 := Lib.hid (HL7.out.below (hb10'.mono (by omega)))
        have HD10 := Lib.hid (HD7.out.below (hb10'.mono (by omega)))
        have hown10 := HO10.out
        cases b with
        | false =>
          have hno := HB.out
          simp only [Bool.false_eq_true, false_iff] at hno
          obtain ⟨hlt, htok, HS3⟩ := HS2.out.next HN2.out (by simpa using hno)
          have HS3 := Lib.hid HS3
          have HTK := Lib.hid (push_toks htok)
          have hbd := tokAt_bd d (apT s ⟨P, D, t⟩) om hlt
          have hts := hTs.out
          have HLT := Lib.hid hlt
          clear htok hno hlt
          go_wp2_with (first
            | (go_at_call 84; refine (scanTok_any v.Ac v.An v.Aa v.nc v.cc v.nn v.cn v.na v.ca d kk B _ _ om (apT s ⟨P, D, t⟩) w10 HD10.out (by omega) ho HLT.out (by omega) S10 D10).mono ?_; rintro e w11 ⟨rfl, hb11⟩; have hown11 := own_below hown10 hb11)
            | (at_builtin; go_must (refine wpList_append_own _ rfl _ _ 41 rfl w7.heap.size 110 i0 (.agg #[.int .i64 0, .int .i64 0, .string ⟨#[]⟩, .int .i64 0]) 4 40 Tryz.underlying41 hi0 hz0 hz1 hz2 rfl (by decide) _ m (toks ((lexL d (apT s ⟨P, D, t⟩)).take m)) rfl ?hown ⟨w11.heap.size + 1, 0, none⟩ 1 1 (tokAt d (apT s ⟨P, D, t⟩) om).cells rfl rfl ?c1 ?c2 ?c3 ?c4 ?c5 ?_)))
          case hown => exact (hown11.alloc _).alloc _
          case c1 =>
            intro j u hj
            rw [Addr.add_lit, (Blk.new' _ _ _ (by simp)).cell]
            simpa [Tok.cells] using hj
          case c2 =>
            intro u hu
            simp [Tok.cells] at hu
            rcases hu with rfl | rfl | rfl | rfl <;> rfl
          case c3 => unfold maxLen; omega
          case c4 => omega
          case c5 => have := hb11.size; simp; omega
          · intro v' w12 hown' hgrow _
            have hs11 := hb11.size
            have hlt0 := hown11.lt
            have T0 : Blk w12 w11.heap.size 110 (tokAt d (apT s ⟨P, D, t⟩) om).cells.toArray := ((Blk.new' _ _ _ rfl).alloc _).grown hgrow (fun e => by have := hlt0 _ e.symm; omega)
            have t0 := T0.cell 0
            have t1 := T0.cell 1
            have t2 := T0.cell 2
            have t3 := T0.cell 3
            simp [Tok.cells] at t0 t1 t2 t3
            have hb12 : Below w7.heap.size w7 w12 := (((hb10'.trans (hb11.mono (by omega))).alloc (by omega) _).alloc (by simp; omega) _).grown hgrow (by simp; omega) (fun k hk => (hown11.lt k hk).1)
            rw [← HTK.out] at hown'
            have HO12 := Lib.hid hown'
            clear hown' hgrow hown11 hown10 T0 hlt0
            go_wp2_with (go_at_call 42; refine (end_any (tokAt d (apT s ⟨P, D, t⟩) om).kind (tokAt d (apT s ⟨P, D, t⟩) om).pos (tokAt d (apT s ⟨P, D, t⟩) om).look (tokAt d (apT s ⟨P, D, t⟩) om).text w12 ⟨Int.natCast_nonneg _, by show (om : Int) ≤ _; omega⟩ (by omega)).mono ?_; rintro e w13 ⟨rfl, hb13⟩)
            go_roundw
            case rel => exact ⟨om + (tokAt d (apT s ⟨P, D, t⟩) om).text.size, m + 1, k2, hk2, by omega, by omega, rfl, rfl, own_below HO12.out hb13, hb12.trans (hb13.mono hb12.size), HS3⟩
            case measure =>
              have hpos : (tokAt d (apT s ⟨P, D, t⟩) om).pos = (om : Int) := rfl
              simp [intOf, hpos]; omega
        | true =>
          have hyes := HB.out
          simp only [true_iff] at hyes
          obtain ⟨hq, he⟩ := hyes
          have HFI := Lib.hid (HS2.out.first (by simpa using hq) (by simpa using he))
          have hfk := Meet.fk hok HFI.out.meet
          simp only at hfk
          rw [← HPR.out] at hfk
          have hlen := Meet.len hok HFI.out.meet
          obtain ⟨OA, OC, rfl, hoc1, hoc2⟩ := own_form hown10
          unfold maxLen at hoc2
          have hfm := HFI.out.meet.fm
          simp only at hfm
          rw [← HPR.out] at hfm
          go_upto_region 16 with fail
          go_cut [120, 121, 122] (fun a b cnt wx => ∃ (A2 : Option Addr) (c2 : Nat), a = .slice A2 (n - k2) c2 ∧ b = .int .i64 (n - k2 : Nat) ∧ cnt = .int .i64 0 ∧ Reads wx B 4 A2 (n - k2) (toks ((lexL d s).drop k2)) ∧ Blk wx w10.heap.size 50 #[.int .i64 f, .int .i64 ((k2 : Int) - f), .int .i64 ((m : Int) - f)] ∧ Below w10.heap.size w10 wx ∧ w10.heap.size < wx.heap.size)
          case first =>
            have hr2 := (HL10.out.alloc (B := B) (by omega) (.cells #[.int .i64 f, .int .i64 ((k2 : Int) - f), .int .i64 ((m : Int) - f)] 50)).back hk2 hnc
            have HR2 := Lib.hid hr2
            clear hr2
            by_cases hck : c = k2
            · rw [if_pos hck] at HR2
              subst hck
              go_wp2_with fail
              go_meet
              have hz0 : n - c = 0 := by omega
              exact ⟨A, 0, by rw [hz0], by rw [hz0]; rfl, rfl, HR2.out, Blk.new' _ _ _ rfl, (Below.refl _ _).alloc (Nat.le_refl _) _, by simp⟩
            · rw [if_neg hck] at HR2
              go_wp2_with fail
              go_meet
              exact ⟨_, _, rfl, rfl, rfl, HR2.out, Blk.new' _ _ _ rfl, (Below.refl _ _).alloc (Nat.le_refl _) _, by simp⟩
          case rest =>
            obtain ⟨A2, e2, rfl, rfl, rfl, hr2, X11, hb11, hlt11⟩ := hcut
            rename World => w11
            have hs11 := hb11.size
            have HO11 := Lib.hid (own_below hown10 hb11)
            have HR2 := Lib.hid hr2
            have hb11' : Below w7.heap.size w7 w11 := hb10'.trans (hb11.mono (by omega))
            have hml := HFI.out.meet.ml
            have hLs := lexL_len d (apT s ⟨P, D, t⟩)
            have hts := hTs.out
            have hz := HSZ.out
            clear hr2 hown10 HO10 C10 S10 D10 K10 c0 c1 c2 hb11
            go_wp2_with fail
            go_loopw [16, 122] (fun sv cnt wr => ∃ j : Nat, j ≤ n - k2 ∧ cnt = .int .i64 j ∧ wr.ownsRow w7.heap.size 110 4 sv (m + j) (toks ((lexL d (apT s ⟨P, D, t⟩)).take (m + j))) ∧ Blk wr w10.heap.size 50 #[.int .i64 f, .int .i64 ((k2 : Int) - f), .int .i64 ((m : Int) - f)] ∧ Below w7.heap.size w11 wr) (fun _ cnt _ => n - k2 - (intOf cnt).toNat)
            case atStart => exact ⟨0, Nat.zero_le _, rfl, HO11.out, X11, Below.refl _ _⟩
            case round =>
              obtain ⟨j, hj, rfl, hown, Xr, hbr⟩ := hrel
              clear X11 HO11
              have hsr := hbr.size
              by_cases hlt : j < n - k2
              · have hltD : decide (j < n - k2) = true := by simp [hlt]
                obtain ⟨b, off, y, rfl, _, hy, h0, h1, h2, h3⟩ := (HR2.out.below (hbr.mono (by omega))).tok_at hlt
                rw [List.getElem?_drop] at hy
                have hyp := lexL_pos d s hy
                have hos := (lexL_at d s hy).1
                have HTK := Lib.hid (push_toks (HFI.out.meet.tok hok hy))
                obtain ⟨o, ho2⟩ : ∃ o, o = offs (lexL d s) (k2 + j) := ⟨_, rfl⟩
                rw [← ho2] at hyp hos
                obtain ⟨yk, yp, yt, yl⟩ := y
                simp only at hyp h0 h1 h2 h3
                subst hyp
                clear hy ho2
                go_wp2_with (at_builtin; go_must (refine wpList_append_own _ rfl _ _ 41 rfl w7.heap.size 110 i0 (.agg #[.int .i64 0, .int .i64 0, .string ⟨#[]⟩, .int .i64 0]) 4 40 Tryz.underlying41 hi0 hz0 hz1 hz2 rfl (by decide) _ (m + j) (toks ((lexL d (apT s ⟨P, D, t⟩)).take (m + j))) rfl ?hown ⟨wr.heap.size + 1, 0, none⟩ 1 1 (Tok.mv ((t.size : Int) - D) ⟨yk, o, yt, yl⟩).cells rfl rfl ?c1 ?c2 ?c3 ?c4 ?c5 ?_))
                case hown => exact (hown.alloc _).alloc _
                case c1 =>
                  intro j u hj
                  first
                    | (rw [Addr.add_lit, (Blk.new' _ _ _ (by simp)).cell]; simpa [Tok.cells, Tok.mv] using hj)
                    | simpa [Tok.cells, Tok.mv] using hj
                case c2 =>
                  intro u hu
                  simp [Tok.cells, Tok.mv] at hu
                  rcases hu with rfl | rfl | rfl | rfl <;> rfl
                case c3 => unfold maxLen; omega
                case c4 => omega
                case c5 => first | omega | (simp; omega)
                · intro v' w12 hown' hgrow _
                  have hX := own_blk_ne hown Xr (by decide)
                  have X12 : Blk w12 w10.heap.size 50 #[.int .i64 f, .int .i64 ((k2 : Int) - f), .int .i64 ((m : Int) - f)] := ((Xr.alloc _).alloc _).grown hgrow (fun e => hX e.symm)
                  have hb12 : Below w7.heap.size w11 w12 := ((hbr.alloc (by omega) _).alloc (by simp; omega) _).grown hgrow (by simp; omega) (fun k hk => (hown.lt k hk).1)
                  rw [← HTK.out] at hown'
                  have HO12 := Lib.hid hown'
                  clear hown' hgrow hown
                  go_wp2_with fail
                  go_roundw
                  case rel => exact ⟨j + 1, by omega, by go_num, HO12.out, X12, hb12⟩
                  case measure => simp [intOf]; omega
              · have hltD : decide (j < n - k2) = false := by simp [hlt]
                have hjl : Hid ((lexL d (apT s ⟨P, D, t⟩)).length = m + j) := by show _ = _; omega
                have Kr := K7.below (hb11'.trans hbr) K7l
                have x0 := Xr.cell 0
                have x1 := Xr.cell 1
                have x2 := Xr.cell 2
                have z0 := Kr.cell 0
                have z1 := Kr.cell 1
                have z2 := Kr.cell 2
                have g0 := Kr.frozen 0
                have g1 := Kr.frozen 1
                have g2 := Kr.frozen 2
                simp at x0 x1 x2 z0 z1 z2
                obtain ⟨RA, RC, rfl, hrc1, hrc2⟩ := own_form hown
                have HO := Lib.hid hown
                have hbw : Below w.heap.size w wr := (hb0.trans (Y7.mono (by omega))).trans ((hb11'.trans hbr).mono (by omega))
                clear hown
                go_wp2_with fail
                go_region
                all_goals go_wp2_with fail
                have K9 := blk_drew (Kr.set3 (.int .i64 f) (.int .i64 ((k2 : Int) - f)) (.int .i64 ((m : Int) - f)))
                have O9 := own_drew (own_set (own_set (own_set HO.out (p := ⟨w.heap.size + 1 + 1, 0, none⟩) (by simp; omega) (.int .i64 f)) (p := ⟨w.heap.size + 1 + 1, 1, none⟩) (by simp; omega) (.int .i64 ((k2 : Int) - f))) (p := ⟨w.heap.size + 1 + 1, 2, none⟩) (by simp; omega) (.int .i64 ((m : Int) - f)))
                have hb9 := ((((hbw.setCell (p := ⟨w.heap.size + 1 + 1, 0, none⟩) (by simp; omega) (.int .i64 f)).setCell (p := ⟨w.heap.size + 1 + 1, 1, none⟩) (by simp; omega) (.int .i64 ((k2 : Int) - f))).setCell (p := ⟨w.heap.size + 1 + 1, 2, none⟩) (by simp; omega) (.int .i64 ((m : Int) - f)))).drew
                have htl : (lexL d (apT s ⟨P, D, t⟩)).take (m + j) = lexL d (apT s ⟨P, D, t⟩) := List.take_of_length_le (Nat.le_of_eq hjl.out)
                rw [htl] at O9
                have hpre : preL (⟨P, D, t⟩ : Ed).pos (lexL d s) = f := HPR.out.symm
                refine bodyPost_ret (results_upd rfl rfl (K9.cell 0) (K9.cell 1) (K9.cell 2) rfl rfl) rfl ?_
                refine ⟨RA, RC, m, k2, ?_, ?_, ?_, ?_, HFI.out, hb9, ?_⟩
                · rw [hpre, hjl.out]; rfl
                · rw [hjl.out]; exact hrc1
                · exact hrc2
                · rw [hjl.out]; exact Reads.of_own O9
                · intro b off e
                  subst e
                  have := (O9.lt b rfl).1
                  omega
end Go.Proofs.YtibdcnmaodmghaaGreatDoor
end
