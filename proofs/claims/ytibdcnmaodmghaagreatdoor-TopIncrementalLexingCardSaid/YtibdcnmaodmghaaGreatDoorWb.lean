/- The law TopIncrementalLexing is walked. -/
import Derived.Test.YtibdcnmaodmghaaGreatDoorWa
import Derived.Test.YtibdcnmaodmghaaGreatDoorUc
import Derived.Test.YtibdcnmaodmghaaGreatDoorLb
import Derived.Test.YtibdcnmaodmghaaGreatDoorBase
import Derived.Test.YtibdcnmaodmghaaGreatDoorLa
import Derived.Deep.DeepCutAuto
section
namespace Go.Proofs.YtibdcnmaodmghaaGreatDoor
open Go.RowKit
set_option maxRecDepth 100000

set_option maxHeartbeats 4000000 in
theorem top25_any (s : ByteArray) (A1 : Option Addr) (n1 c1 B : Nat) (l : List Ed) (w : World) (hL : Lay w) (hs : s.size ≤ maxLen) (hl : Reads w B 3 A1 n1 (eds l)) (hB : B ≤ w.heap.size) (hn1 : n1 ≤ maxLen) (ht : ∀ t ∈ l, t.ins.size ≤ maxLen) :
    Calls Tryz.prog 3 #[.string s, .slice A1 n1 c1] w fun e w' => e = .returned (.bool true) ∧ Below w.heap.size w w' := by
  unfold maxLen at hs hn1
  have HAW := Tryz.awake_any w hL
  go_enter Tryz.func3, Tryz.ntmps3
  go_wp2_with fail
  refine HAW.mono ?_
  rintro e w1 ⟨rfl, a1, l1⟩
  have HL : Hid (Reads w1 w1.heap.size 3 A1 n1 (eds l)) := (hl.below (a1.mono hB)).more (Nat.le_trans hB a1.size)
  have HT := Lib.hid ht
  clear HAW hl hL ht
  by_cases hs100 : s.size ≤ 100
  case neg =>
    have d1 : decide ((s.size : Int) > 100) = true := by simp; omega
    have d1' : decide ((100 : Int) < (s.size : Int)) = true := d1
    go_wp2_with fail
    go_ret
    exact ⟨rfl, a1⟩
  have d1 : decide ((s.size : Int) > 100) = false := by simp; omega
  have d1' : decide ((100 : Int) < (s.size : Int)) = false := d1
  by_cases hn8 : n1 ≤ 8
  case neg =>
    have d2 : decide ((n1 : Int) > 8) = true := by simp; omega
    have d2' : decide ((8 : Int) < (n1 : Int)) = true := d2
    go_wp2_with fail
    go_ret
    exact ⟨rfl, a1⟩
  have d2 : decide ((n1 : Int) > 8) = false := by simp; omega
  have d2' : decide ((8 : Int) < (n1 : Int)) = false := d2
  have HW := Tryz.words_any w1 l1
  go_wp2_with fail
  refine HW.mono ?_
  rintro e w2 ⟨u, rfl, hM⟩
  have HC := Tryz.compile_any w1 w2 u l1 hM
  clear HW hM
  go_wp2_with fail
  refine HC.mono ?_
  rintro e wc ⟨v, rfl, hd, a2⟩
  have HLc : Hid (Reads wc wc.heap.size 3 A1 n1 (eds l)) := (HL.out.below a2).more a2.size
  have ac := aft_below a1 a2
  have HD := Lib.hid hd
  clear HC HL a1 a2 l1 hd d1 d1' d2 d2'
  obtain ⟨W, hW⟩ : ∃ W, W = wc.alloc (.cells #[.slice v.Ac v.nc v.cc, .slice v.An v.nn v.cn, .slice v.Aa v.na v.ca] 27) := ⟨_, rfl⟩
  have bW : Below wc.heap.size wc W := by rw [hW]; exact (Below.refl _ _).alloc (Nat.le_refl _) _
  have sW : W.heap.size = wc.heap.size + 1 := by rw [hW]; simp
  have K0 : Blk W wc.heap.size 27 #[.slice v.Ac v.nc v.cc, .slice v.An v.nn v.cn, .slice v.Aa v.na v.ca] := by rw [hW]; exact Blk.new' _ _ _ rfl
  go_wp2_with fail
  rw [← hW]
  clear hW
  refine (ropeNew_any s W (by omega)).mono ?_
  rintro e w5 ⟨vr, rfl, I5, B5⟩
  obtain ⟨p, rfl⟩ := I5.ptr'
  go_wp2_with fail
  obtain ⟨W6, hW6⟩ : ∃ W6, W6 = w5.alloc (.cells #[.pointer p] 37) := ⟨_, rfl⟩
  have b6 : Below w5.heap.size w5 W6 := by rw [hW6]; exact (Below.refl _ _).alloc (Nat.le_refl _) _
  have s6 : W6.heap.size = w5.heap.size + 1 := by rw [hW6]; simp
  have K6 : Blk W6 w5.heap.size 37 #[.pointer p] := by rw [hW6]; exact Blk.new' _ _ _ rfl
  have z5 := B5.size
  have b56 := b6.mono (Nat.le_refl _)
  rw [← hW6]
  clear hW6
  refine (unew_any s W6).mono ?_
  rintro e w7 ⟨rfl, rfl⟩
  have H7 := new_hist s W6 (fun k => k = W6.heap.size) rfl
  have b7 : Below W6.heap.size W6 (W6.alloc (.cells #[.string s, .int .i64 0, .slice none 0 0, .slice none 0 0] 119)) := (Below.refl _ _).alloc (Nat.le_refl _) _
  have s7 : (W6.alloc (.cells #[.string s, .int .i64 0, .slice none 0 0, .slice none 0 0] 119)).heap.size = W6.heap.size + 1 := by simp
  have T7 : Blk (W6.alloc (.cells #[.string s, .int .i64 0, .slice none 0 0, .slice none 0 0] 119)) W6.heap.size 119 #[.string s, .int .i64 0, .slice none 0 0, .slice none 0 0] := Blk.new' _ _ _ rfl
  generalize W6.alloc (.cells #[.string s, .int .i64 0, .slice none 0 0, .slice none 0 0] 119) = W7 at *
  have bw5 : Below wc.heap.size wc w5 := bW.trans (B5.mono (by omega))
  have bw6 : Below wc.heap.size wc W6 := bw5.trans (b6.mono (by omega))
  have bw7 : Below wc.heap.size wc W7 := bw6.trans (b7.mono (by omega))
  have K07 : Blk W7 wc.heap.size 27 #[.slice v.Ac v.nc v.cc, .slice v.An v.nn v.cn, .slice v.Aa v.na v.ca] := ((K0.below B5 (by omega)).below b6 (by omega)).below b7 (by omega)
  have K67 : Blk W7 w5.heap.size 37 #[.pointer p] := K6.below b7 (by omega)
  have I7 := (I5.below b6).below b7
  have k0 := K07.cell 0
  have k1 := K07.cell 1
  have k2 := K07.cell 2
  simp at k0 k1 k2
  go_wp2_with fail
  refine (lexOwn_any v Tryz.dfa0 7 W7.heap.size s W7 ((HD.out.below bw7).more (by omega)) (Nat.le_refl _) Tryz.dfa_ok (by omega)).mono ?_
  rintro e w8 ⟨A, c, rfl, hown, B8⟩
  obtain ⟨A', c', he, hc1, hc2⟩ := own_form hown
  injection he with e1 e2 e3
  subst e1
  subst e3
  have z8 := B8.size
  have R0 : Round wc w8 v wc.heap.size w5.heap.size W6.heap.size 0 s A (lexL Tryz.dfa0 s).length (CH.new s).hs p (fun k => k = W6.heap.size) := by
    refine ⟨bw7.trans (B8.mono (by omega)), K07.below B8 (by omega), K67.below B8 (by omega), I7.below B8, H7.below B8, fun k hk => ?_, fun k hk => ?_, Reads.of_own hown, fun _ b off e hf => ?_, by omega, rfl, Nat.le_refl _, Nat.le_refl _, fun e he => ?_, rfl⟩
    · subst hk
      exact ⟨119, _, _, T7.below B8 (by omega), .inl rfl⟩
    · subst hk
      omega
    · subst e
      have := (hown.lt b rfl).1
      omega
    · cases he
  have HR0 : Hid (Round wc w8 v wc.heap.size w5.heap.size (w5.heap.size + 1) 0 s A (lexL Tryz.dfa0 s).length (CH.new s).hs p (fun k => k = W6.heap.size)) := by rw [← s6]; exact R0
  clear R0 hown K07 K67 K0 K6 T7 H7 I5 I7 B5 b6 b7 b56 bw5 bw6 bw7 B8 k0 k1 k2 bW
  go_wp2_with fail
  go_loopw [9, 10, 11] (fun a9 a10 a11 wr => ∃ (i : Nat) (S : ByteArray) (A : Option Addr) (n c : Nat) (h : HS) (p : Option Addr) (F : Nat → Prop), i ≤ n1 ∧ a9 = .string S ∧ a10 = .slice A n c ∧ a11 = .int .i64 i ∧ S.size ≤ 100 + 20 * i ∧ n = (lexL Tryz.dfa0 S).length ∧ n ≤ c ∧ c ≤ maxLen ∧ Hid (Round wc wr v wc.heap.size w5.heap.size (w5.heap.size + 1) i S A n h p F)) (fun _ _ a11 _ => n1 - (intOf a11).toNat)
  case atStart => exact ⟨0, s, A, _, c, _, p, _, Nat.zero_le _, rfl, rfl, rfl, by omega, rfl, hc1, hc2, HR0⟩
  case round =>
    obtain ⟨i, S, A, n, c, h, p, F, hi, rfl, rfl, rfl, hS, hn, hc1, hc2, HR⟩ := hrel
    clear HR0
    have HN := Lib.hid hn
    have hns := lexL_len Tryz.dfa0 S
    rw [← hn] at hns
    clear hn
    by_cases hlt : i < n1
    case neg =>
      have hd : decide (i < n1) = false := by simp [hlt]
      go_wp2_with fail
      go_ret
      exact ⟨rfl, aft_below ac HR.out.bl⟩
    have hltD : decide (i < n1) = true := by simp [hlt]
    obtain ⟨b, off, y, rfl, hbB, hy, h0, h1, h2⟩ := HLc.out.ed_at hlt
    have hyt := HT.out y (List.mem_of_getElem? hy)
    obtain ⟨ep, ed, ei⟩ := y
    simp only at h0 h1 h2 hyt
    unfold maxLen at hyt
    clear hy
    have cells : Hid (∀ w', Below wc.heap.size wc w' → w'.cell? ⟨b, off + i * 3, none⟩ = some (.int .i64 ep) ∧ w'.cell? ⟨b, off + i * 3 + 1, none⟩ = some (.int .i64 ed) ∧ w'.cell? ⟨b, off + i * 3 + 2, none⟩ = some (.string ei)) := by
      intro w' hb'
      exact ⟨((bcell hb').1 _ _ hbB).trans h0, ((bcell hb').1 _ _ hbB).trans h1, ((bcell hb').1 _ _ hbB).trans h2⟩
    obtain ⟨x0, x1, x2⟩ := cells.out _ HR.out.bl
    clear h0 h1 h2
    by_cases he20 : ei.size ≤ 20
    case neg =>
      have d3 : decide ((ei.size : Int) > 20) = true := by simp; omega
      have d3' : decide ((20 : Int) < (ei.size : Int)) = true := d3
      go_wp2_with fail
      go_ret
      exact ⟨rfl, aft_below ac HR.out.bl⟩
    have d3 : decide ((ei.size : Int) > 20) = false := by simp; omega
    have d3' : decide ((20 : Int) < (ei.size : Int)) = false := d3
    have hSS : S.size ≤ 260 := by omega
    go_wp2_with fail
    refine (apply_any S ep ed ei wr (by omega)).mono ?_
    rintro e w8 ⟨rfl, hb8⟩
    have HR8 := Lib.hid (HR.out.below hb8)
    clear HR hb8 x0 x1 x2 d3 d3' hltD
    have K8 := HR8.out.rope
    have D8 := HR8.out.dfa
    have r0 := K8.cell 0
    have e0 := D8.cell 0
    have e1 := D8.cell 1
    have e2 := D8.cell 2
    simp at r0 e0 e1 e2
    obtain ⟨f, hf⟩ : ∃ f, f = apF S ⟨ep, ed, ei⟩ := ⟨_, rfl⟩
    obtain ⟨T, hT⟩ : ∃ T, T = apT S ⟨ep, ed, ei⟩ := ⟨_, rfl⟩
    rw [← hf, ← hT]
    have hTz : T.size ≤ S.size + 20 := by rw [hT]; have := apT_le S ⟨ep, ed, ei⟩; simp only at this; omega
    have HF := Lib.hid hf
    have HTT := Lib.hid hT
    clear hf hT
    go_upto_region 18 with fail
    have Y8 := HR8.out.bl
    have z8 := Y8.size
    have hz8 : w8.heap.size ≤ w8.drew.heap.size := Nat.le_refl _
    have B8 : Below w8.heap.size w8 w8.drew := (Below.refl _ _).drew
    have B8' : Below w8.heap.size w8 (w8.alloc (.cells #[.pointer none] 37)).drew := ((Below.refl _ w8).alloc (Nat.le_refl _) _).drew
    have Z8 := blk_drew (Blk.new' w8 37 #[.pointer none] (g := w8.heap.size) rfl)
    have hz8n : w8.heap.size < (w8.alloc (.cells #[.pointer none] 37)).drew.heap.size := by show w8.heap.size < (w8.alloc _).heap.size; simp
    have H9 : Hid (∀ w9, Below w8.heap.size w8 w9 → w9.cell? ⟨w5.heap.size, 0, none⟩ = some (.pointer p) ∧ w9.cell? ⟨b, off + i * 3, none⟩ = some (.int .i64 ep) ∧ w9.cell? ⟨b, off + i * 3 + 1, none⟩ = some (.int .i64 ed) ∧ w9.cell? ⟨b, off + i * 3 + 2, none⟩ = some (.string ei) ∧ Below w8.heap.size w8 w9) := fun w9 h => by
      obtain ⟨x0, x1, x2⟩ := cells.out _ (Y8.trans (h.mono z8))
      exact ⟨(K8.below h K8.lt).cell 0, x0, x1, x2, h⟩
    have HTR : Hid (∀ w9, Below w8.heap.size w8 w9 → Calls Tryz.prog 13 #[.agg #[.pointer p], .agg #[.int .i64 ep, .int .i64 ed, .string ei]] w9 fun e w' => ∃ q : Option Addr, e = .returned (.tuple #[.agg #[.pointer q], .int .i64 f]) ∧ ShIs T w' (.pointer q) ∧ Below w9.heap.size w9 w') := fun w9 h => by
      refine (ropeReplace_any S (.pointer p) ep ed ei w9 (HR8.out.tree.below h) (by omega)).mono ?_
      rintro e w' ⟨v', rfl, I, Bq⟩
      obtain ⟨q, rfl⟩ := I.ptr'
      rw [← HTT.out] at I
      exact ⟨q, by rw [HF.out], I, Bq⟩
    go_cut [14, 15] (fun a14 a15 wx => ∃ (q : Nat) (p' : Option Addr), a14 = .pointer (some ⟨q, 0, none⟩) ∧ a15 = .int .i64 f ∧ Blk wx q 37 #[.pointer p'] ∧ ShIs T wx (.pointer p') ∧ Below w8.heap.size w8 wx)
    case first =>
      go_region_held3 (fun w9 => w9.cell? ⟨w5.heap.size, 0, none⟩ = some (.pointer p) ∧ w9.cell? ⟨b, off + i * 3, none⟩ = some (.int .i64 ep) ∧ w9.cell? ⟨b, off + i * 3 + 1, none⟩ = some (.int .i64 ed) ∧ w9.cell? ⟨b, off + i * 3 + 2, none⟩ = some (.string ei) ∧ Below w8.heap.size w8 w9)
        (first | exact H9.out _ ((Below.refl _ _).drew) | exact H9.out _ B8' | exact H9.out _ X9 | exact H9.out _ (X9.alloc hz9 _) | exact H9.out _ (X9.setCell (Nat.le_refl _) _))
        (first
          | (go_at_call 13; (with_reducible refine (HTR.out w8.drew B8).mono ?_); rintro e w9 ⟨p9, rfl, I9, B9⟩; have X9 : Below w8.heap.size w8 w9 := B8.trans (B9.mono (Nat.le_refl _)); have hz9 : w8.heap.size ≤ w9.heap.size := X9.size)
          | (go_at_call 13; (with_reducible refine (HTR.out _ B8').mono ?_); rintro e w9 ⟨p9, rfl, I9, B9⟩; have X9 : Below w8.heap.size w8 w9 := B8'.trans (B9.mono (Nat.le_of_lt hz8n)); have hz9 : w8.heap.size ≤ w9.heap.size := X9.size; have Z9 := Z8.below B9 hz8n; have n0 := Z9.cell 0; have m0 := Z9.frozen 0; simp at n0))
      all_goals
        go_wp2_with fail
        go_meet
        first
          | exact ⟨_, p9, rfl, rfl, Blk.new' _ _ _ rfl, I9.below ((Below.refl _ _).alloc (Nat.le_refl _) _), X9.alloc hz9 _⟩
          | exact ⟨_, p9, rfl, rfl, Z9.set_ 0 _, I9.keep (Keep209.set Z9 (by decide) _), X9.setCell (Nat.le_refl _) _⟩
    case rest =>
      obtain ⟨q, p', rfl, rfl, Kq, Iq, X9⟩ := hcut
      rename World => w9
      have HR9 := Lib.hid (HR8.out.below X9)
      have HIq := Lib.hid Iq
      have HKq := Lib.hid Kq
      clear H9 HTR HR8 K8 D8 r0 e0 e1 e2 Y8 z8 hz8 B8 B8' Z8 hz8n X9 Iq Kq
      clear w8
      have K9 := HR9.out.rope
      have D9 := HR9.out.dfa
      have Y9 := HR9.out.bl
      have z9 := Y9.size
      have hz8 : w9.heap.size ≤ w9.drew.heap.size := Nat.le_refl _
      have B8 : Below w9.heap.size w9 w9.drew := (Below.refl _ _).drew
      have B8' : Below w9.heap.size w9 (w9.alloc (.cells #[.int .i64 0, .int .i64 0, .int .i64 0] 50)).drew := ((Below.refl _ w9).alloc (Nat.le_refl _) _).drew
      have Z8 := blk_drew (Blk.new' w9 50 #[.int .i64 0, .int .i64 0, .int .i64 0] (g := w9.heap.size) rfl)
      have hz8n : w9.heap.size < (w9.alloc (.cells #[.int .i64 0, .int .i64 0, .int .i64 0] 50)).drew.heap.size := by show w9.heap.size < (w9.alloc _).heap.size; simp
      have H9 : Hid (∀ wx, Below w9.heap.size w9 wx → wx.cell? ⟨wc.heap.size, 0, none⟩ = some (.slice v.Ac v.nc v.cc) ∧ wx.cell? ⟨wc.heap.size, 1, none⟩ = some (.slice v.An v.nn v.cn) ∧ wx.cell? ⟨wc.heap.size, 2, none⟩ = some (.slice v.Aa v.na v.ca) ∧ wx.cell? ⟨b, off + i * 3, none⟩ = some (.int .i64 ep) ∧ wx.cell? ⟨b, off + i * 3 + 1, none⟩ = some (.int .i64 ed) ∧ wx.cell? ⟨b, off + i * 3 + 2, none⟩ = some (.string ei) ∧ Below w9.heap.size w9 wx) := fun wx h => by
        obtain ⟨x0, x1, x2⟩ := cells.out _ (Y9.trans (h.mono z9))
        have D := D9.below h D9.lt
        exact ⟨D.cell 0, D.cell 1, D.cell 2, x0, x1, x2, h⟩
      have HTR : Hid (∀ wx, Below w9.heap.size w9 wx → Calls Tryz.prog 14 #[.agg #[.slice v.Ac v.nc v.cc, .slice v.An v.nn v.cn, .slice v.Aa v.na v.ca], .slice A n c, .agg #[.int .i64 ep, .int .i64 ed, .string ei]] wx fun e w' =>
          ∃ (A' : Option Addr) (n' c' : Nat) (g1 g2 g3 : Int), e = .returned (.tuple #[.slice A' n' c', .agg #[.int .i64 g1, .int .i64 g2, .int .i64 g3], .int .i64 f]) ∧ Below wx.heap.size wx w' ∧
          Hid (Up f T A' n' c' w9.heap.size w')) := fun wx h => by
        refine (update_all v Tryz.dfa0 7 w9.heap.size S A n c ep ed ei wx (((HD.out.below Y9).below (h.mono z9)).more z9) Tryz.dfa_ok (HR9.out.tk.below h) h.size hc1 hc2 (by omega)).mono ?_
        rintro e w' ⟨A', n', c', g1, g2, g3, rfl, hb, hx⟩
        rw [← HF.out, ← HTT.out] at hx
        refine ⟨A', n', c', g1, g2, g3, by rw [← HF.out], hb, fun h0 => ?_⟩
        obtain ⟨q1, q2, q3, q4, q5⟩ := hx h0
        exact ⟨q1, q2, q3, q4, fun b off e => Nat.le_trans h.size (q5 b off e)⟩
      go_upto_region 19 with fail
      go_cut [16, 18] (fun a16 a18 wx => ∃ (A' : Option Addr) (n' c' : Nat), a16 = .slice A' n' c' ∧ a18 = .int .i64 f ∧ Hid (Up f T A' n' c' w9.heap.size wx) ∧ Below w9.heap.size w9 wx)
      case first =>
        go_region_held3 (fun wx => wx.cell? ⟨wc.heap.size, 0, none⟩ = some (.slice v.Ac v.nc v.cc) ∧ wx.cell? ⟨wc.heap.size, 1, none⟩ = some (.slice v.An v.nn v.cn) ∧ wx.cell? ⟨wc.heap.size, 2, none⟩ = some (.slice v.Aa v.na v.ca) ∧ wx.cell? ⟨b, off + i * 3, none⟩ = some (.int .i64 ep) ∧ wx.cell? ⟨b, off + i * 3 + 1, none⟩ = some (.int .i64 ed) ∧ wx.cell? ⟨b, off + i * 3 + 2, none⟩ = some (.string ei) ∧ Below w9.heap.size w9 wx)
          (first | exact H9.out _ ((Below.refl _ _).drew) | exact H9.out _ B8' | exact H9.out _ X9 | exact H9.out _ (X9.alloc hz9 _) | exact H9.out _ (((X9.setCell (Nat.le_refl _) _).setCell (Nat.le_refl _) _).setCell (Nat.le_refl _) _))
          (first
            | (go_at_call 14; (with_reducible refine (HTR.out w9.drew B8).mono ?_); rintro e wb ⟨A9, n9, c9, g1, g2, g3, rfl, B9, I9⟩; have X9 : Below w9.heap.size w9 wb := B8.trans (B9.mono (Nat.le_refl _)); have hz9 : w9.heap.size ≤ wb.heap.size := X9.size)
            | (go_at_call 14; (with_reducible refine (HTR.out _ B8').mono ?_); rintro e wb ⟨A9, n9, c9, g1, g2, g3, rfl, B9, I9⟩; have X9 : Below w9.heap.size w9 wb := B8'.trans (B9.mono (Nat.le_of_lt hz8n)); have hz9 : w9.heap.size ≤ wb.heap.size := X9.size; have Z9 := Z8.below B9 hz8n; have n0 := Z9.cell 0; have n1' := Z9.cell 1; have n2 := Z9.cell 2; have m0 := Z9.frozen 0; have m1 := Z9.frozen 1; have m2 := Z9.frozen 2; simp at n0 n1' n2))
        all_goals
          go_wp2_with fail
          go_meet
          first
            | exact ⟨A9, n9, c9, rfl, rfl, I9.out.alloc _, X9.alloc hz9 _⟩
            | exact ⟨A9, n9, c9, rfl, rfl, I9.out.set3 Z9 _ _ _, ((X9.setCell (Nat.le_refl _) _).setCell (Nat.le_refl _) _).setCell (Nat.le_refl _) _⟩
      case rest =>
        obtain ⟨A', n', c', rfl, rfl, HU, X9⟩ := hcut
        rename World => wb
        have HRb := Lib.hid (HR9.out.below X9)
        have Hqb := Lib.hid (HIq.out.below X9)
        have HKb := Lib.hid (HKq.out.below X9 HKq.out.lt)
        have HX := Lib.hid X9
        have HLT : Hid (∀ k, F k → k < w9.heap.size) := fun k hk => by
          obtain ⟨T', cs', fr', e, _⟩ := HR9.out.kinds k hk
          exact (Array.getElem?_eq_some_iff.1 e).1
        have HNR : Hid (w5.heap.size < w9.heap.size) := K9.lt
        clear H9 HTR K9 D9 Y9 z9 hz8 B8 B8' Z8 hz8n HIq HKq X9
        obtain ⟨x0, x1, x2⟩ := cells.out _ HRb.out.bl
        obtain ⟨hsm, hvm⟩ := HRb.out.small (by omega) (by omega)
        have hDo := do_any F (w5.heap.size + 1) h ep ed ei wb HRb.out.hist hsm (by omega) hvm
        clear hsm hvm
        have hdoE : doE h ⟨ep, ed, ei⟩ = f := by rw [doE_eq (by rw [HRb.out.ht]; simp only; omega), HRb.out.ht]; exact HF.out.symm
        rw [hdoE] at hDo
        have HE := Lib.hid hdoE
        have HDO := Lib.hid hDo
        clear hdoE hDo
        go_wp2_with fail
        refine HDO.out.mono ?_
        rintro e wd ⟨rfl, hP⟩
        have HP := Lib.hid hP
        clear HDO hP x0 x1 x2
        by_cases hf0 : f = 0
        case neg =>
          have hb0 : (f == 0) = false := by rw [beq_eq_false_iff_ne]; exact hf0
          have hdH : doH h ⟨ep, ed, ei⟩ = h := by unfold doH; rw [if_neg (by rw [HE.out]; exact hf0)]
          have hP := HP.out
          rw [hdH] at hP
          obtain ⟨F', hR⟩ := HRb.out.no hP
          have HR' := Lib.hid hR
          clear hR hP hdH HP
          go_wp2_with fail
          go_roundw
          case rel => exact ⟨i + 1, S, A, n, c, h, p, F', by omega, rfl, rfl, by go_num, by omega, HN.out, hc1, hc2, HR'⟩
          case measure => simp [intOf]; omega
        subst hf0
        obtain ⟨q1, q2, q3, q4, q5⟩ := HU.out rfl
        have Q1 := Lib.hid q1
        clear q1
        have hT := HTT.out
        obtain ⟨Kq, Kr, F', hR⟩ := HRb.out.yes (p' := p') (nq := q) (n' := n') (A' := A') HP.out HE.out (by omega) he20 HKb.out (by rw [← hT]; exact Hqb.out) (by rw [← hT]; exact q4)
          (fun b off e hb => by have := q5 b off e; have := HLT.out b hb; omega) (fun b off e hb => by have := q5 b off e; have := HNR.out; omega)
        rw [← hT] at hR
        have HR' := Lib.hid (hR (.pointer p') rfl)
        have HQ := Lib.hid Kq
        have HKr := Lib.hid Kr
        have Kqd : Blk wd.drew q 37 #[.pointer p'] := Kq
        have Krd : Blk wd.drew w5.heap.size 37 #[.pointer p] := Kr
        have j0 := Kqd.cell 0
        have i0 := Krd.cell 0
        have if0 := Krd.frozen 0
        simp at j0 i0
        clear hR hT HP HE HU q4 Kq Kr HLT HNR Hqb HKb HRb Kqd Krd
        go_wp2_with fail
        go_region
        have HRe : Hid (Round wc (wd.setCell ⟨w5.heap.size, 0, none⟩ (.pointer p')).drew v wc.heap.size w5.heap.size (w5.heap.size + 1) (i + 1) T A' n' (doH h ⟨ep, ed, ei⟩) p' F') := HR'.out
        clear HR' HQ HKr j0 i0 if0
        obtain ⟨we, hwe⟩ : ∃ we, we = (wd.setCell ⟨w5.heap.size, 0, none⟩ (.pointer p')).drew := ⟨_, rfl⟩
        rw [← hwe] at HRe ⊢
        clear hwe
        have r0 := HRe.out.rope.cell 0
        simp at r0
        have hST := ropeString_any T (.pointer p') we HRe.out.tree (by omega)
        have HST := Lib.hid hST
        clear hST
        go_wp2_with fail
        refine HST.out.mono ?_
        rintro e wf ⟨rfl, Bf⟩
        have HRf := Lib.hid (HRe.out.below Bf)
        have g0 := HRf.out.hist.text
        rw [HRf.out.ht] at g0
        clear HRe HST Bf r0
        go_wp2_with fail
        refine (utext_any (w5.heap.size + 1) T wf g0).mono ?_
        rintro e wg ⟨rfl, rfl⟩
        clear g0
        have hTX := text_any A' n' c' wf.heap.size (lexL Tryz.dfa0 T) wf HRf.out.tk (Nat.le_refl _) (Nat.le_trans q2 q3) (by rw [textL_lexL]; omega)
        rw [textL_lexL] at hTX
        have HTX := Lib.hid hTX
        clear hTX
        go_wp2_with fail
        refine HTX.out.mono ?_
        rintro e wh ⟨rfl, Bh⟩
        have HRh := Lib.hid (HRf.out.below Bh)
        clear HRf HTX Bh
        have D := HRh.out.dfa
        have e0 := D.cell 0
        have e1 := D.cell 1
        have e2 := D.cell 2
        simp at e0 e1 e2
        have hLX := lex_any v Tryz.dfa0 7 wh.heap.size T wh ((HD.out.below HRh.out.bl).more HRh.out.bl.size) (Nat.le_refl _) Tryz.dfa_ok (by omega)
        have HLX := Lib.hid hLX
        clear hLX D
        go_wp2_with fail
        refine HLX.out.mono ?_
        rintro e wk ⟨A3, c3, he3, hc31, hc32, r3, B3⟩
        rw [← Q1.out] at he3 hc31 r3
        subst he3
        have HRk := Lib.hid (HRh.out.below B3)
        clear HRh HLX B3 e0 e1 e2
        have hSM := same_any A' A3 n' n' c' c3 wk.heap.size wk.heap.size (lexL Tryz.dfa0 T) (lexL Tryz.dfa0 T) wk HRk.out.tk r3 (Nat.le_trans q2 q3) (Nat.le_trans hc31 hc32)
        rw [sameT_iff.2 rfl] at hSM
        have HSM := Lib.hid hSM
        clear hSM r3
        go_wp2_with fail
        refine HSM.out.mono ?_
        rintro e wm ⟨rfl, k9, rfl⟩
        have HRm := Lib.hid (HRk.out.below (below_drewN (Below.refl _ wk) k9))
        clear HRk HSM
        go_wp2_with fail
        go_roundw
        case rel => exact ⟨i + 1, T, A', n', c', _, p', F', by omega, rfl, rfl, by go_num, by omega, Q1.out, q2, q3, HRm⟩
        case measure => simp [intOf]; omega
end Go.Proofs.YtibdcnmaodmghaaGreatDoor
end
