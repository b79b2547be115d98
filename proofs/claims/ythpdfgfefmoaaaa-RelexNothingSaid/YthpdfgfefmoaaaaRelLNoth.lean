/- RelexNothing returns true. -/
import Derived.Test.YthpdfgfefmoaaaaRelLaw0
import Derived.Test.YthpdfgfefmoaaaaRText
import Derived.Deep.DeepCutAuto
namespace Go.Proofs.Ythpdfgfefmoaaaa
open Go.RowKit

theorem apT_same {s : ByteArray} {P D Q : Nat} (hQ : Q = P + D) (h : Q ≤ s.size) : Ed.ok s.size ⟨P, D, s.extract P Q⟩ = true ∧ apT s ⟨P, D, s.extract P Q⟩ = s := by
  have hok : Ed.ok s.size ⟨P, D, s.extract P Q⟩ = true := by rw [Ed.ok_iff]; exact ⟨by simp, by simp, by simp; omega, by simp; omega⟩
  refine ⟨hok, bl_inj ?_⟩
  rw [bl_apT hok, bl_extract]
  show (bl s).take P ++ ((bl s).take Q).drop P ++ (bl s).drop (P + D) = bl s
  rw [← hQ]
  have h1 : (bl s).take P = ((bl s).take Q).take P := by rw [List.take_take, Nat.min_eq_left (by omega)]
  rw [h1, List.take_append_drop, List.take_append_drop]
theorem apT_none {s : ByteArray} {P : Nat} (h : P ≤ s.size) : Ed.ok s.size ⟨P, (0 : Nat), ⟨#[]⟩⟩ = true ∧ apT s ⟨P, (0 : Nat), ⟨#[]⟩⟩ = s := by
  have := apT_same (s := s) (P := P) (D := 0) (Q := P) (by omega) h
  rwa [show s.extract P P = ⟨#[]⟩ from by apply bl_inj; rw [bl_extract, bl_empty]; simp] at this
theorem first_same {d : Dfa} {s : ByteArray} {e : Ed} {m q : Nat} (hok : e.ok s.size = true) (h : First d s e m q) (hs : apT s e = s) : m = q := by
  have := h.meet.len hok
  rw [hs] at this
  omega

set_option maxRecDepth 100000 in
set_option maxHeartbeats 4000000 in
theorem lawRNoth_any (v : DfaV) (d : Dfa) (B : Nat) (s : ByteArray) (x y : Int) (w : World) (hd : DfaAt w B v d) (hB : B ≤ w.heap.size) (hs : s.size ≤ maxLen) (hx : 0 ≤ x ∧ x ≤ 255) (hy : 0 ≤ y ∧ y ≤ 255) :
    Calls Try.prog 7 #[.agg #[.slice v.Ac v.nc v.cc, .slice v.An v.nn v.cn, .slice v.Aa v.na v.ca], .string s, .agg #[.int .u8 x, .int .u8 y]] w fun e w' => e = .returned (.bool true) ∧ Below w.heap.size w w' := by
  obtain ⟨a, rfl⟩ := Int.eq_ofNat_of_zero_le hx.1
  obtain ⟨b, rfl⟩ := Int.eq_ofNat_of_zero_le hy.1
  have ha : a ≤ 255 := by omega
  have hb : b ≤ 255 := by omega
  clear hx hy
  have HD := Lib.hid (hd.more hB)
  clear hd
  go_enter Try.func7, Try.ntmps7
  go_wp2_with fail
  obtain ⟨W, hW⟩ : ∃ W, W = (w.alloc (.cells #[.slice v.Ac v.nc v.cc, .slice v.An v.nn v.cn, .slice v.Aa v.na v.ca] 25)).alloc (.cells #[.int .u8 a, .int .u8 b] 48) := ⟨_, rfl⟩
  have hbW : Below w.heap.size w W := by rw [hW]; exact ((Below.refl _ _).alloc (Nat.le_refl _) _).alloc (by simp) _
  have hsW : W.heap.size = w.heap.size + 1 + 1 := by rw [hW]; simp
  have K0 : Blk W w.heap.size 25 #[.slice v.Ac v.nc v.cc, .slice v.An v.nn v.cn, .slice v.Aa v.na v.ca] := by rw [hW]; exact (Blk.new' w _ _ rfl).alloc _
  have L0 : Blk W (w.heap.size + 1) 48 #[.int .u8 a, .int .u8 b] := by rw [hW]; exact Blk.new' (w.alloc _) _ _ (by simp)
  have HDW := Lib.hid (HD.out.below hbW)
  rw [← hW]
  clear hW HD
  refine (small_any v d w.heap.size 40 20 W HDW.out (by omega)).mono ?_
  rintro e w1 ⟨bb, rfl, hok, hb1⟩
  have hs1 := hb1.size
  have hbw1 := hbW.trans (hb1.mono (by omega))
  have K1 := K0.below hb1 (by omega)
  have L1 := L0.below hb1 (by omega)
  have HD1 := Lib.hid (HDW.out.below (hb1.mono (by omega)))
  have k0 := K1.cell 0
  have k1 := K1.cell 1
  have k2 := K1.cell 2
  simp at k0 k1 k2
  clear K0 L0 HDW hbW hb1
  cases bb with
  | false =>
    go_wp2_with fail
    refine (awake_any _).mono ?_
    rintro e w2 ⟨rfl, hb2⟩
    go_wp2_with fail
    go_ret
    exact ⟨rfl, hbw1.trans (hb2.mono (by omega))⟩
  | true =>
  obtain ⟨k, ho⟩ := hok rfl
  have HO := Lib.hid ho
  clear hok ho
  by_cases hs100 : s.size ≤ 100
  case neg =>
    have hsD : decide ((100 : Int) < (s.size : Int)) = true := by simp; omega
    go_wp2_with fail
    refine (awake_any _).mono ?_
    rintro e w2 ⟨rfl, hb2⟩
    go_wp2_with fail
    go_ret
    exact ⟨rfl, hbw1.trans (hb2.mono (by omega))⟩
  case pos =>
  have hsD : decide ((100 : Int) < (s.size : Int)) = false := by simp; omega
  go_wp2_with fail
  refine (refLex_any v d k w.heap.size s w1 HD1.out (by omega) HO.out (by omega)).mono ?_
  rintro e w2 ⟨A, c, rfl, hc1, hc2, r2, hb2⟩
  have hs2 := hb2.size
  have K2 := K1.below hb2 (by omega)
  have L2 := L1.below hb2 (by omega)
  have HD2 := Lib.hid (HD1.out.below (hb2.mono (by omega)))
  have hbw2 : Below w.heap.size w w2 := hbw1.trans (hb2.mono (by omega))
  have HR2 := Lib.hid r2
  obtain ⟨n, hn⟩ : ∃ n, n = (lexL d s).length := ⟨_, rfl⟩
  have HN := Lib.hid hn
  have hns := lexL_len d s
  rw [← hn] at hc1 HR2 hns ⊢
  clear hn r2 K1 HD1 hb2 L1 k0 k1 k2
  have k0 := K2.cell 0
  have k1 := K2.cell 1
  have k2 := K2.cell 2
  have l0 := L2.cell 0
  have l1 := L2.cell 1
  simp at k0 k1 k2 l0 l1
  obtain ⟨P, hp⟩ : ∃ P, a % (s.size + 1) = P := ⟨_, rfl⟩
  have hps : P ≤ s.size := by have := Nat.mod_lt a (show 0 < s.size + 1 by omega); omega
  obtain ⟨D, hdd⟩ : ∃ D, b % (s.size - P + 1) = D := ⟨_, rfl⟩
  have hds : D ≤ s.size - P := by have := Nat.mod_lt b (show 0 < s.size - P + 1 by omega); omega
  obtain ⟨M, hM⟩ : ∃ M, s.size - P = M := ⟨_, rfl⟩
  rw [hM] at hdd
  have HP := Lib.hid hp
  have HDD := Lib.hid hdd
  have HM := Lib.hid hM
  obtain ⟨Q, hQ⟩ : ∃ Q, Q = P + D := ⟨_, rfl⟩
  have HQ := Lib.hid hQ
  have q1 : IntKind.i64.wrap (a : Int) = (a : Int) := IntWalk.i64_in _ (by omega)
  have q2 : IntKind.i64.wrap (b : Int) = (b : Int) := IntWalk.i64_in _ (by omega)
  have v1 : IntKind.i64.wrap ((s.size : Int) + 1) = (s.size : Int) + 1 := IntWalk.i64_in _ (by omega)
  have v2 : (a : Int).tmod ((s.size : Int) + 1) = (P : Int) := by rw [← HP.out]; rfl
  have v3 : a % (s.size + 1) = P := HP.out
  have v5 : IntKind.i64.wrap (P : Int) = (P : Int) := IntWalk.i64_in _ (by omega)
  have v6 : ((s.size : Int) + 1 == 0) = false := by rw [beq_eq_false_iff_ne]; omega
  have v7 : ¬ ((s.size : Int) + 1 = 0) := by omega
  have v8 : (a : Int) % ((s.size : Int) + 1) = (P : Int) := by rw [← v3]; exact (Int.natCast_emod a (s.size + 1)).symm
  have x1 : IntKind.i64.wrap ((s.size : Int) - P) = (M : Int) := by rw [show (s.size : Int) - P = (M : Int) by omega]; exact IntWalk.i64_in _ (by omega)
  have x2 : IntKind.i64.wrap ((M : Int) + 1) = (M : Int) + 1 := IntWalk.i64_in _ (by omega)
  have x3 : (b : Int).tmod ((M : Int) + 1) = (D : Int) := by rw [← HDD.out]; rfl
  have x4 : b % (M + 1) = D := HDD.out
  have x5 : IntKind.i64.wrap (D : Int) = (D : Int) := IntWalk.i64_in _ (by omega)
  have x6 : ((M : Int) + 1 == 0) = false := by rw [beq_eq_false_iff_ne]; omega
  have x7 : ¬ ((M : Int) + 1 = 0) := by omega
  have x8 : (b : Int) % ((M : Int) + 1) = (D : Int) := by rw [← x4]; exact (Int.natCast_emod b (M + 1)).symm
  have x9 : IntKind.i64.wrap ((P : Int) + D) = (Q : Int) := by rw [show (P : Int) + D = (Q : Int) by omega]; exact IntWalk.i64_in _ (by omega)
  have x10 : IntKind.i64.wrap ((Q : Int) - P) = (D : Int) := by rw [show (Q : Int) - P = (D : Int) by omega]; exact IntWalk.i64_in _ (by omega)
  have hPQ : (P : Int) ≤ (Q : Int) := by omega
  have hQs : (Q : Int) ≤ (s.size : Int) := by omega
  have hPQ' : P ≤ Q := by omega
  have hQs' : Q ≤ s.size := by omega
  have HAP := Lib.hid (apT_same hQ hQs')
  have HAN := Lib.hid (apT_none hps)
  clear hp hdd hM hQ
  go_wp2_with fail
  refine (updateOk_any v d k w2.heap.size s A n c P 0 ⟨#[]⟩ w2 (HD2.out.more (by omega)) HO.out HR2.out (Nat.le_refl _) hc1 hc2 (by show s.size + 0 ≤ _; omega) HAN.out.1).mono ?_
  unfold RetUpd
  rw [HAN.out.2, ← HN.out]
  rintro e w3 ⟨A3, c3, m, q, he, hc3, hm3, r3, hf, hb3⟩
  obtain ⟨f1, f2, f3, he'⟩ : ∃ f1 f2 f3, e = .returned (.tuple #[.slice A3 n c3, .agg #[.int .i64 f1, .int .i64 f2, .int .i64 f3], .int .i64 0]) := ⟨_, _, _, he⟩
  subst he'
  clear he hf
  have hs3 := hb3.size
  go_upto_region 7 with fail
  obtain ⟨w8, hw8⟩ : ∃ w8, w3.alloc (.cells #[.int .i64 f1, .int .i64 f2, .int .i64 f3] 35) = w8 := ⟨_, rfl⟩
  rw [hw8]
  have X8 : Below w2.heap.size w2 w8 := by rw [← hw8]; exact hb3.alloc hs3 _
  have HL8 : Hid (Reads w8 w3.heap.size 4 A3 n (toks (lexL d s))) := by rw [← hw8]; exact r3.alloc (Nat.le_refl _) _
  have hs8 := X8.size
  have hlw3 : w3.heap.size ≤ w8.heap.size := by rw [← hw8]; simp
  have K8 := K2.below X8 K2.lt
  have HD8 := Lib.hid (HD2.out.below (X8.mono (by omega)))
  have HR8 := Lib.hid (HR2.out.below X8)
  have hbw8 := hbw2.trans (X8.mono (by omega))
  clear hw8 k0 k1 k2 l0 l1 K2 L2 HD2 HR2 r3 hb3
  have hz8 : w8.heap.size ≤ w8.drew.heap.size := Nat.le_refl _
  have hz8' : w8.heap.size ≤ (w8.alloc (.cells #[.int .i64 0, .int .i64 0, .int .i64 0] 35)).drew.heap.size := by show w8.heap.size ≤ (w8.alloc _).heap.size; simp
  have B8 : Below w8.heap.size w8 w8.drew := (Below.refl _ _).drew
  have B8' : Below w8.heap.size w8 (w8.alloc (.cells #[.int .i64 0, .int .i64 0, .int .i64 0] 35)).drew := ((Below.refl _ w8).alloc (Nat.le_refl _) _).drew
  have Z8 := blk_drew (Blk.new' w8 35 #[.int .i64 0, .int .i64 0, .int .i64 0] (g := w8.heap.size) rfl)
  have hz8n : w8.heap.size < (w8.alloc (.cells #[.int .i64 0, .int .i64 0, .int .i64 0] 35)).drew.heap.size := by show w8.heap.size < (w8.alloc _).heap.size; simp
  have h9 : ∀ w9, Below w8.heap.size w8 w9 → w9.cell? ⟨w.heap.size, 0, none⟩ = some (.slice v.Ac v.nc v.cc) ∧ w9.cell? ⟨w.heap.size, 1, none⟩ = some (.slice v.An v.nn v.cn) ∧ w9.cell? ⟨w.heap.size, 2, none⟩ = some (.slice v.Aa v.na v.ca) ∧ Below w8.heap.size w8 w9 := fun w9 h => by
    have K9 := K8.below h K8.lt
    exact ⟨K9.cell 0, K9.cell 1, K9.cell 2, h⟩
  have H9 := Lib.hid h9
  have hlen8 : w.heap.size ≤ w8.heap.size := by omega
  have hlw2 : w2.heap.size ≤ w8.heap.size := by omega
  have hsz8 : s.size + (s.extract P Q).size ≤ 1048576 := by rw [ByteArray.size_extract]; omega
  have hmx : n ≤ maxLen := by unfold maxLen; omega
  clear h9 hs8 hs3
  go_cut [13, 14, 15] (fun a13 a14 a15 wx => ∃ (A9 : Option Addr) (c9 g : Nat) (z : Int), a13 = .slice A9 n c9 ∧ a14 = .pointer (some ⟨g, 0, none⟩) ∧ a15 = .int .i64 0 ∧ g < wx.heap.size ∧ wx.cell? ⟨g, 1, none⟩ = some (.int .i64 z) ∧ wx.cell? ⟨g, 2, none⟩ = some (.int .i64 z) ∧ (∃ B9, B9 ≤ wx.heap.size ∧ Reads wx B9 4 A9 n (toks (lexL d s))) ∧ Below w8.heap.size w8 wx)
  case first =>
    go_region_held3 (fun w' => w'.cell? ⟨w.heap.size, 0, none⟩ = some (.slice v.Ac v.nc v.cc) ∧ w'.cell? ⟨w.heap.size, 1, none⟩ = some (.slice v.An v.nn v.cn) ∧ w'.cell? ⟨w.heap.size, 2, none⟩ = some (.slice v.Aa v.na v.ca) ∧ Below w8.heap.size w8 w')
      (first | exact H9.out _ ((Below.refl _ _).drew) | exact H9.out _ B8' | exact H9.out _ X9 | exact H9.out _ (X9.alloc hz9 _) | exact H9.out _ (((X9.setCell (Nat.le_refl _) _).setCell (Nat.le_refl _) _).setCell (Nat.le_refl _) _))
      (first
        | (go_at_call 12; (with_reducible refine (updateOk_any v d k w8.heap.size s A n c P D (s.extract P Q) w8.drew ((HD8.out.more hlen8).below B8) HO.out ((HR8.out.more hlw2).below B8) hz8 hc1 hc2 hsz8 HAP.out.1).mono ?_); unfold RetUpd; rw [HAP.out.2, ← HN.out]; rintro e w9 ⟨A9, c9, m9, q9, he, hc9, hm9, r9, hf9, hb9⟩; have hmq := first_same HAP.out.1 hf9 HAP.out.2; rw [hmq] at he; clear hmq; obtain ⟨g1, z, he'⟩ : ∃ g1 z, e = .returned (.tuple #[.slice A9 n c9, .agg #[.int .i64 g1, .int .i64 z, .int .i64 z], .int .i64 0]) := ⟨_, _, he⟩; subst he'; clear he; have X9 : Below w8.heap.size w8 w9 := B8.trans (hb9.mono (Nat.le_refl _)); have hz9 : w8.heap.size ≤ w9.heap.size := X9.size)
        | (go_at_call 12; (with_reducible refine (updateOk_any v d k w8.heap.size s A n c P D (s.extract P Q) _ ((HD8.out.more hlen8).below B8') HO.out ((HR8.out.more hlw2).below B8') hz8' hc1 hc2 hsz8 HAP.out.1).mono ?_); unfold RetUpd; rw [HAP.out.2, ← HN.out]; rintro e w9 ⟨A9, c9, m9, q9, he, hc9, hm9, r9, hf9, hb9⟩; have hmq := first_same HAP.out.1 hf9 HAP.out.2; rw [hmq] at he; clear hmq; obtain ⟨g1, z, he'⟩ : ∃ g1 z, e = .returned (.tuple #[.slice A9 n c9, .agg #[.int .i64 g1, .int .i64 z, .int .i64 z], .int .i64 0]) := ⟨_, _, he⟩; subst he'; clear he; have X9 : Below w8.heap.size w8 w9 := B8'.trans (hb9.mono hz8'); have hz9 : w8.heap.size ≤ w9.heap.size := X9.size; have Z9 := Z8.below hb9 hz8n; have n0 := Z9.cell 0; have n1 := Z9.cell 1; have n2 := Z9.cell 2; have m0 := Z9.frozen 0; have m1 := Z9.frozen 1; have m2 := Z9.frozen 2; simp at n0 n1 n2))
    all_goals
      go_wp2_with fail
      go_meet
      first
        | exact ⟨A9, c9, _, z, rfl, rfl, rfl, by simp, (Blk.new' w9 35 #[.int .i64 g1, .int .i64 z, .int .i64 z] rfl).cell 1, (Blk.new' w9 35 #[.int .i64 g1, .int .i64 z, .int .i64 z] rfl).cell 2, ⟨_, by simp, r9.alloc (Nat.le_refl _) _⟩, X9.alloc hz9 _⟩
        | exact ⟨A9, c9, _, z, rfl, rfl, rfl, (Z9.set3 (.int .i64 g1) (.int .i64 z) (.int .i64 z)).lt, (Z9.set3 (.int .i64 g1) (.int .i64 z) (.int .i64 z)).cell 1, (Z9.set3 (.int .i64 g1) (.int .i64 z) (.int .i64 z)).cell 2, ⟨_, by simp, r9.set_far3 Z9 _ _ _⟩, ((X9.setCell (Nat.le_refl _) _).setCell (Nat.le_refl _) _).setCell (Nat.le_refl _) _⟩
  case rest =>
    obtain ⟨A9, c9, g, z, rfl, rfl, rfl, hg, hz1, hz2, ⟨B9, hB9, r9⟩, X9⟩ := hcut
    rename World => w9
    go_wp2_with fail
    refine (awake_any _).mono ?_
    rintro e w10 ⟨rfl, hb10⟩
    have X10 := X9.trans (hb10.mono X9.size)
    have y1 := ((bcell hb10).1 _ _ hg).trans hz1
    have y2 := ((bcell hb10).1 _ _ hg).trans hz2
    clear hz1 hz2
    go_wp2_with fail
    refine (same_any A3 A n n c3 c w3.heap.size w2.heap.size (lexL d s) (lexL d s) w10 (HL8.out.below (X10.mono hlw3)) (HR8.out.below (X10.mono hlw2)) hmx hmx).mono ?_
    rw [sameT_iff.2 rfl]
    rintro e w11 ⟨rfl, n11, rfl⟩
    go_wp2_with fail
    refine (same_any A9 A n n c9 c w9.heap.size w2.heap.size (lexL d s) (lexL d s) (w10.drewN n11) ((r9.more hB9).below (below_drewN hb10 _)) (HR8.out.below (below_drewN (X10.mono hlw2) _)) hmx hmx).mono ?_
    rw [sameT_iff.2 rfl]
    rintro e w12 ⟨rfl, n12, rfl⟩
    go_wp2_with fail
    go_ret
    exact ⟨rfl, below_drewN (hbw8.trans (X10.mono hlen8)) _⟩
end Go.Proofs.Ythpdfgfefmoaaaa
