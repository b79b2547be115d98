/- The reference's better, and Combine without values. -/
import Derived.Test.YthakcefgbggkcaaDoorChRPl
namespace Go.Proofs.YthakcefgbggkcaaDoor
open Go.RowKit

theorem comb_nil (p : Int) (hp : 0 ≤ p) : comb p [] = if p < 1099511627776 then ⟨p, 1⟩ else vtop := by
  show vfin ⟨min p 1099511627776, 1⟩ = _
  unfold vfin
  by_cases h : p < 1099511627776
  · rw [if_pos h, if_neg (show ¬ min p 1099511627776 = 1099511627776 by omega), Int.min_eq_left (by omega)]
  · rw [if_neg h, if_pos (show min p 1099511627776 = 1099511627776 by omega)]
set_option maxRecDepth 100000 in
theorem rcombine0_any (p : Int) (hp : 0 ≤ p) (w : World) :
    Calls Tryd.prog 25 #[.int .i64 p, .slice none 0 0] w fun e w' => e = .returned (.agg #[.int .i64 (comb p []).c, .int .i64 (comb p []).s]) ∧ Below w.heap.size w w' := by
  have hcb := comb_nil p hp
  obtain ⟨v, hv⟩ : ∃ v, comb p [] = v := ⟨_, rfl⟩
  rw [hv] at hcb ⊢
  clear hv
  go_enter Tryd.func25, Tryd.ntmps25
  go_wp2_with fail
  have K0 : Blk (w.alloc (.cells #[.int .i64 0, .int .i64 0] 45)) w.heap.size 45 #[.int .i64 0, .int .i64 0] := Blk.new' w _ _ rfl
  have hb : Below w.heap.size w (w.alloc (.cells #[.int .i64 0, .int .i64 0] 45)) := (Below.refl _ _).alloc (Nat.le_refl _) _
  have HCB := Lib.hid hcb
  clear hcb
  go_loopw [5, 6, 7] (fun x5 x6 a wr => a = .int .i64 0 ∧ x5 = .int .i64 p ∧ x6 = .int .i64 1 ∧ Hid (Blk wr w.heap.size 45 #[.int .i64 0, .int .i64 0]) ∧ Below w.heap.size w wr) (fun _ _ a _ => 0)
  case atStart => exact ⟨rfl, rfl, rfl, K0, hb⟩
  case round =>
    obtain ⟨rfl, rfl, rfl, HK0, hbr⟩ := hrel
    clear K0 hb
    have y0 := HK0.out.frozen 0
    have y1 := HK0.out.frozen 1
    have x0 := HK0.out.cell 0
    have x1 := HK0.out.cell 1
    simp at x0 x1
    have hltD : decide ((0 : Int) < ((0 : Nat) : Int)) = false := by decide
    by_cases h : p < 1099511627776
    · have hd : decide ((1099511627776 : Int) ≤ p) = false := by simp; omega
      go_wp2_with fail
      have r1 := HK0.out.set2 (.int .i64 p) (.int .i64 1)
      have e := HCB.out
      rw [if_pos (show p < 1099511627776 by omega)] at e
      refine bodyPost_ret (results_val rfl rfl (r1.cell 0) (r1.cell 1)) rfl ⟨by rw [e], ?_⟩
      exact (hbr.setCell (by show w.heap.size ≤ w.heap.size; omega) _).setCell (by show w.heap.size ≤ w.heap.size; omega) _
    · have hd : decide ((1099511627776 : Int) ≤ p) = true := by simp; omega
      go_wp2_with fail
      have r1 := HK0.out.set2 (.int .i64 1099511627776) (.int .i64 0)
      have e := HCB.out
      rw [if_neg (show ¬ p < 1099511627776 by omega)] at e
      refine bodyPost_ret (results_val rfl rfl (r1.cell 0) (r1.cell 1)) rfl ⟨by rw [e]; rfl, ?_⟩
      exact (hbr.setCell (by show w.heap.size ≤ w.heap.size; omega) _).setCell (by show w.heap.size ≤ w.heap.size; omega) _

theorem req_vl (w : World) (a b x y : Int) (q : Bool) (h : (decide (a = x) && decide (b = y)) = q) :
    (binOp .eql 45 (.agg #[.int .i64 a, .int .i64 b]) (.agg #[.int .i64 x, .int .i64 y])).run Tryd.prog w = .ok (.bool q) w := by
  rw [← h]
  simp only [binOp]
  by_cases h1 : a = x
  · by_cases h2 : b = y <;> simp [go_sem, Op.equal, Op.maxDepth, h1, h2]
  · simp [go_sem, Op.equal, Op.maxDepth, h1]
set_option maxRecDepth 100000 in
set_option maxHeartbeats 4000000 in
theorem better_any (w : World) (a : Cl) (v : Vl) (k g : Int) :
    Calls Tryd.prog 54 #[.agg #[.int .i64 a.v.c, .int .i64 a.v.s, .int .i64 a.r, .int .i64 a.a], .agg #[.int .i64 v.c, .int .i64 v.s], .int .i64 k, .int .i64 g] w fun e w' =>
      e = .returned (.agg #[.int .i64 (btr a v k g).v.c, .int .i64 (btr a v k g).v.s, .int .i64 (btr a v k g).r, .int .i64 (btr a v k g).a]) ∧ Below w.heap.size w w' := by
  obtain ⟨W, hW⟩ : ∃ W, ((w.alloc (.cells #[.int .i64 a.v.c, .int .i64 a.v.s, .int .i64 a.r, .int .i64 a.a] 47)).alloc (.cells #[.int .i64 v.c, .int .i64 v.s] 45)).alloc (.cells #[.int .i64 0, .int .i64 0, .int .i64 0, .int .i64 0] 47) = W := ⟨_, rfl⟩
  obtain ⟨b, hb⟩ : ∃ b, w.heap.size = b := ⟨_, rfl⟩
  have K1 : Blk W b 47 #[.int .i64 a.v.c, .int .i64 a.v.s, .int .i64 a.r, .int .i64 a.a] := by rw [← hW]; exact ((Blk.new' _ _ _ hb).alloc _).alloc _
  have K2 : Blk W (b + 1) 45 #[.int .i64 v.c, .int .i64 v.s] := by rw [← hW]; exact (Blk.new' _ _ _ (by simp; omega)).alloc _
  have K3 : Blk W (b + 1 + 1) 47 #[.int .i64 0, .int .i64 0, .int .i64 0, .int .i64 0] := by rw [← hW]; exact Blk.new' _ _ _ (by simp; omega)
  have hB : Below w.heap.size w W := by rw [← hW]; exact (((Below.refl _ _).alloc (Nat.le_refl _) _).alloc (by simp) _).alloc (by simp; omega) _
  have HW := Lib.hid hW
  have HB := Lib.hid hB
  have HK1 := Lib.hid K1
  have HK2 := Lib.hid K2
  have HK3 := Lib.hid K3
  have HLE := Lib.hid (show w.heap.size ≤ b + 1 + 1 by omega)
  have k10 := K1.cell 0
  have k11 := K1.cell 1
  have k12 := K1.cell 2
  have k13 := K1.cell 3
  have k20 := K2.cell 0
  have k21 := K2.cell 1
  have k30 := K3.cell 0
  have k31 := K3.cell 1
  have k32 := K3.cell 2
  have k33 := K3.cell 3
  have z0 := K3.frozen 0
  have z1 := K3.frozen 1
  have z2 := K3.frozen 2
  have z3 := K3.frozen 3
  simp at k10 k11 k12 k13 k20 k21 k30 k31 k32 k33
  clear hW hB K1 K2 K3
  obtain ⟨L, hL⟩ : ∃ L, vlt v.c v.s a.v.c a.v.s = L := ⟨_, rfl⟩
  obtain ⟨q, hq⟩ : ∃ q, (decide (v.c = a.v.c) && decide (v.s = a.v.s)) = q := ⟨_, rfl⟩
  have HLS := Lib.hid (fun w9 : World => by have h := rless_any v.c v.s a.v.c a.v.s w9; rw [hL] at h; exact h)
  have hqq := fun w9 : World => req_vl w9 v.c v.s a.v.c a.v.s q hq
  have hc : (decide ((1099511627776 : Int) ≤ v.c) = true ∧ btr a v k g = a) ∨ (decide ((1099511627776 : Int) ≤ v.c) = false ∧ L = true ∧ q = false ∧ btr a v k g = ⟨v, k, g⟩) ∨ (decide ((1099511627776 : Int) ≤ v.c) = false ∧ L = false ∧ q = false ∧ btr a v k g = a) ∨
      (decide ((1099511627776 : Int) ≤ v.c) = false ∧ L = false ∧ q = true ∧ decide (k < a.r) = true ∧ btr a v k g = ⟨v, k, g⟩) ∨ (decide ((1099511627776 : Int) ≤ v.c) = false ∧ L = false ∧ q = true ∧ decide (k < a.r) = false ∧ (k == a.r) = false ∧ btr a v k g = a) ∨
      (decide ((1099511627776 : Int) ≤ v.c) = false ∧ L = false ∧ q = true ∧ decide (k < a.r) = false ∧ (k == a.r) = true ∧ decide (g < a.a) = true ∧ btr a v k g = ⟨v, k, g⟩) ∨ (decide ((1099511627776 : Int) ≤ v.c) = false ∧ L = false ∧ q = true ∧ decide (k < a.r) = false ∧ (k == a.r) = true ∧ decide (g < a.a) = false ∧ btr a v k g = a) := by
    have hLiff : L = true ↔ (v.c < a.v.c ∨ (v.c = a.v.c ∧ v.s < a.v.s)) := by rw [← hL]; unfold vlt; simp
    have hqiff : q = true ↔ (v.c = a.v.c ∧ v.s = a.v.s) := by rw [← hq]; simp
    have hbt : btr a v k g = if v.c < 1099511627776 ∧ (L = true ∨ (q = true ∧ (k < a.r ∨ (k = a.r ∧ g < a.a)))) then ⟨v, k, g⟩ else a := by
      unfold btr bett
      simp only [hLiff, hqiff]
    rw [hbt]
    by_cases h1 : v.c < 1099511627776
    · right
      have d1 : decide ((1099511627776 : Int) ≤ v.c) = false := by simp; omega
      rw [d1]
      cases L with
      | true =>
        left
        have hqf : q = false := by
          cases q with
          | false => rfl
          | true => have h2 := hLiff.1 rfl; have h3 := hqiff.1 rfl; omega
        exact ⟨rfl, rfl, hqf, if_pos ⟨h1, .inl rfl⟩⟩
      | false =>
        right
        cases q with
        | false => left; exact ⟨rfl, rfl, rfl, if_neg (by simp)⟩
        | true =>
          right
          by_cases h3 : k < a.r
          · left; exact ⟨rfl, rfl, rfl, by simp [h3], if_pos ⟨h1, .inr ⟨rfl, .inl h3⟩⟩⟩
          · right
            by_cases h4 : k = a.r
            · right
              by_cases h5 : g < a.a
              · left; exact ⟨rfl, rfl, rfl, by simp; omega, by simp [h4], by simp [h5], if_pos ⟨h1, .inr ⟨rfl, .inr ⟨h4, h5⟩⟩⟩⟩
              · right; exact ⟨rfl, rfl, rfl, by simp; omega, by simp [h4], by simp; omega, if_neg (fun h => by rcases h.2 with h6 | ⟨_, h6 | h6⟩; exact Bool.noConfusion h6; exact h3 h6; exact h5 h6.2)⟩
            · left; exact ⟨rfl, rfl, rfl, by simp; omega, by simp [h4], if_neg (fun h => by rcases h.2 with h6 | ⟨_, h6 | h6⟩; exact Bool.noConfusion h6; exact h3 h6; exact h4 h6.1)⟩
    · left
      exact ⟨by simp; omega, if_neg (fun h => h1 h.1)⟩
  obtain ⟨y, hy⟩ : ∃ y, btr a v k g = y := ⟨_, rfl⟩
  rw [hy] at hc ⊢
  clear hL hq hy
  rcases hc with ⟨d1, hy⟩ | hc
  · have HY := Lib.hid hy
    clear hy
    go_enter Tryd.func54, Tryd.ntmps54
    go_upto_region 1 with fail
    try rw [hb]
    rw [HW.out]
    go_wp2_with fail
    have r1 := HK3.out.set4 (.int .i64 a.v.c) (.int .i64 a.v.s) (.int .i64 a.r) (.int .i64 a.a)
    refine bodyPost_ret (results_cl rfl rfl (r1.cell 0) (r1.cell 1) (r1.cell 2) (r1.cell 3)) rfl ⟨by rw [HY.out], ?_⟩
    exact at_below HB.out HLE.out _ _ _ _
  · rcases hc with ⟨d1, rfl, rfl, hy⟩ | ⟨d1, rfl, rfl, hy⟩ | ⟨d1, rfl, rfl, d2, hy⟩ | ⟨d1, rfl, rfl, d2, d3, hy⟩ | ⟨d1, rfl, rfl, d2, d3, d4, hy⟩ | ⟨d1, rfl, rfl, d2, d3, d4, hy⟩
    · have HY := Lib.hid hy
      clear hy
      go_enter Tryd.func54, Tryd.ntmps54
      go_upto_region 1 with fail
      try rw [hb]
      rw [HW.out]
      go_wp2_with fail
      refine (HLS.out _).mono ?_
      rintro e w5 ⟨rfl, hb5⟩
      have HK5 := Lib.hid (HK3.out.below hb5 HK3.out.lt)
      have HB5 : Hid (Below w.heap.size w w5) := HB.out.trans (hb5.mono HB.out.size)
      have K1 := HK1.out.below hb5 HK1.out.lt
      have K2 := HK2.out.below hb5 HK2.out.lt
      have p10 := K1.cell 0
      have p11 := K1.cell 1
      have p12 := K1.cell 2
      have p13 := K1.cell 3
      have p20 := K2.cell 0
      have p21 := K2.cell 1
      have p30 := HK5.out.cell 0
      have p31 := HK5.out.cell 1
      have p32 := HK5.out.cell 2
      have p33 := HK5.out.cell 3
      have q0 := HK5.out.frozen 0
      have q1 := HK5.out.frozen 1
      have q2 := HK5.out.frozen 2
      have q3 := HK5.out.frozen 3
      simp at p10 p11 p12 p13 p20 p21 p30 p31 p32 p33
      clear hb5 K1 K2 k10 k11 k12 k13 k20 k21 k30 k31 k32 k33 z0 z1 z2 z3
      go_wp2_with fail
      have r1 := HK5.out.set4 (.int .i64 v.c) (.int .i64 v.s) (.int .i64 k) (.int .i64 g)
      refine bodyPost_ret (results_cl rfl rfl (r1.cell 0) (r1.cell 1) (r1.cell 2) (r1.cell 3)) rfl ⟨by rw [HY.out], ?_⟩
      exact at_below HB5.out HLE.out _ _ _ _
    · have HY := Lib.hid hy
      clear hy
      go_enter Tryd.func54, Tryd.ntmps54
      go_upto_region 1 with fail
      try rw [hb]
      rw [HW.out]
      go_wp2_with fail
      refine (HLS.out _).mono ?_
      rintro e w5 ⟨rfl, hb5⟩
      have HK5 := Lib.hid (HK3.out.below hb5 HK3.out.lt)
      have HB5 : Hid (Below w.heap.size w w5) := HB.out.trans (hb5.mono HB.out.size)
      have K1 := HK1.out.below hb5 HK1.out.lt
      have K2 := HK2.out.below hb5 HK2.out.lt
      have p10 := K1.cell 0
      have p11 := K1.cell 1
      have p12 := K1.cell 2
      have p13 := K1.cell 3
      have p20 := K2.cell 0
      have p21 := K2.cell 1
      have p30 := HK5.out.cell 0
      have p31 := HK5.out.cell 1
      have p32 := HK5.out.cell 2
      have p33 := HK5.out.cell 3
      have q0 := HK5.out.frozen 0
      have q1 := HK5.out.frozen 1
      have q2 := HK5.out.frozen 2
      have q3 := HK5.out.frozen 3
      simp at p10 p11 p12 p13 p20 p21 p30 p31 p32 p33
      clear hb5 K1 K2 k10 k11 k12 k13 k20 k21 k30 k31 k32 k33 z0 z1 z2 z3
      go_wp2_with fail
      have r1 := HK5.out.set4 (.int .i64 a.v.c) (.int .i64 a.v.s) (.int .i64 a.r) (.int .i64 a.a)
      refine bodyPost_ret (results_cl rfl rfl (r1.cell 0) (r1.cell 1) (r1.cell 2) (r1.cell 3)) rfl ⟨by rw [HY.out], ?_⟩
      exact at_below HB5.out HLE.out _ _ _ _
    · have HY := Lib.hid hy
      clear hy
      go_enter Tryd.func54, Tryd.ntmps54
      go_upto_region 1 with fail
      try rw [hb]
      rw [HW.out]
      go_wp2_with fail
      refine (HLS.out _).mono ?_
      rintro e w5 ⟨rfl, hb5⟩
      have HK5 := Lib.hid (HK3.out.below hb5 HK3.out.lt)
      have HB5 : Hid (Below w.heap.size w w5) := HB.out.trans (hb5.mono HB.out.size)
      have K1 := HK1.out.below hb5 HK1.out.lt
      have K2 := HK2.out.below hb5 HK2.out.lt
      have p10 := K1.cell 0
      have p11 := K1.cell 1
      have p12 := K1.cell 2
      have p13 := K1.cell 3
      have p20 := K2.cell 0
      have p21 := K2.cell 1
      have p30 := HK5.out.cell 0
      have p31 := HK5.out.cell 1
      have p32 := HK5.out.cell 2
      have p33 := HK5.out.cell 3
      have q0 := HK5.out.frozen 0
      have q1 := HK5.out.frozen 1
      have q2 := HK5.out.frozen 2
      have q3 := HK5.out.frozen 3
      simp at p10 p11 p12 p13 p20 p21 p30 p31 p32 p33
      clear hb5 K1 K2 k10 k11 k12 k13 k20 k21 k30 k31 k32 k33 z0 z1 z2 z3
      go_wp2_with fail
      have r1 := HK5.out.set4 (.int .i64 v.c) (.int .i64 v.s) (.int .i64 k) (.int .i64 g)
      refine bodyPost_ret (results_cl rfl rfl (r1.cell 0) (r1.cell 1) (r1.cell 2) (r1.cell 3)) rfl ⟨by rw [HY.out], ?_⟩
      exact at_below HB5.out HLE.out _ _ _ _
    · have HY := Lib.hid hy
      clear hy
      go_enter Tryd.func54, Tryd.ntmps54
      go_upto_region 1 with fail
      try rw [hb]
      rw [HW.out]
      go_wp2_with fail
      refine (HLS.out _).mono ?_
      rintro e w5 ⟨rfl, hb5⟩
      have HK5 := Lib.hid (HK3.out.below hb5 HK3.out.lt)
      have HB5 : Hid (Below w.heap.size w w5) := HB.out.trans (hb5.mono HB.out.size)
      have K1 := HK1.out.below hb5 HK1.out.lt
      have K2 := HK2.out.below hb5 HK2.out.lt
      have p10 := K1.cell 0
      have p11 := K1.cell 1
      have p12 := K1.cell 2
      have p13 := K1.cell 3
      have p20 := K2.cell 0
      have p21 := K2.cell 1
      have p30 := HK5.out.cell 0
      have p31 := HK5.out.cell 1
      have p32 := HK5.out.cell 2
      have p33 := HK5.out.cell 3
      have q0 := HK5.out.frozen 0
      have q1 := HK5.out.frozen 1
      have q2 := HK5.out.frozen 2
      have q3 := HK5.out.frozen 3
      simp at p10 p11 p12 p13 p20 p21 p30 p31 p32 p33
      clear hb5 K1 K2 k10 k11 k12 k13 k20 k21 k30 k31 k32 k33 z0 z1 z2 z3
      go_wp2_with fail
      have r1 := HK5.out.set4 (.int .i64 a.v.c) (.int .i64 a.v.s) (.int .i64 a.r) (.int .i64 a.a)
      refine bodyPost_ret (results_cl rfl rfl (r1.cell 0) (r1.cell 1) (r1.cell 2) (r1.cell 3)) rfl ⟨by rw [HY.out], ?_⟩
      exact at_below HB5.out HLE.out _ _ _ _
    · have HY := Lib.hid hy
      clear hy
      go_enter Tryd.func54, Tryd.ntmps54
      go_upto_region 1 with fail
      try rw [hb]
      rw [HW.out]
      go_wp2_with fail
      refine (HLS.out _).mono ?_
      rintro e w5 ⟨rfl, hb5⟩
      have HK5 := Lib.hid (HK3.out.below hb5 HK3.out.lt)
      have HB5 : Hid (Below w.heap.size w w5) := HB.out.trans (hb5.mono HB.out.size)
      have K1 := HK1.out.below hb5 HK1.out.lt
      have K2 := HK2.out.below hb5 HK2.out.lt
      have p10 := K1.cell 0
      have p11 := K1.cell 1
      have p12 := K1.cell 2
      have p13 := K1.cell 3
      have p20 := K2.cell 0
      have p21 := K2.cell 1
      have p30 := HK5.out.cell 0
      have p31 := HK5.out.cell 1
      have p32 := HK5.out.cell 2
      have p33 := HK5.out.cell 3
      have q0 := HK5.out.frozen 0
      have q1 := HK5.out.frozen 1
      have q2 := HK5.out.frozen 2
      have q3 := HK5.out.frozen 3
      simp at p10 p11 p12 p13 p20 p21 p30 p31 p32 p33
      clear hb5 K1 K2 k10 k11 k12 k13 k20 k21 k30 k31 k32 k33 z0 z1 z2 z3
      go_wp2_with fail
      have r1 := HK5.out.set4 (.int .i64 v.c) (.int .i64 v.s) (.int .i64 k) (.int .i64 g)
      refine bodyPost_ret (results_cl rfl rfl (r1.cell 0) (r1.cell 1) (r1.cell 2) (r1.cell 3)) rfl ⟨by rw [HY.out], ?_⟩
      exact at_below HB5.out HLE.out _ _ _ _
    · have HY := Lib.hid hy
      clear hy
      go_enter Tryd.func54, Tryd.ntmps54
      go_upto_region 1 with fail
      try rw [hb]
      rw [HW.out]
      go_wp2_with fail
      refine (HLS.out _).mono ?_
      rintro e w5 ⟨rfl, hb5⟩
      have HK5 := Lib.hid (HK3.out.below hb5 HK3.out.lt)
      have HB5 : Hid (Below w.heap.size w w5) := HB.out.trans (hb5.mono HB.out.size)
      have K1 := HK1.out.below hb5 HK1.out.lt
      have K2 := HK2.out.below hb5 HK2.out.lt
      have p10 := K1.cell 0
      have p11 := K1.cell 1
      have p12 := K1.cell 2
      have p13 := K1.cell 3
      have p20 := K2.cell 0
      have p21 := K2.cell 1
      have p30 := HK5.out.cell 0
      have p31 := HK5.out.cell 1
      have p32 := HK5.out.cell 2
      have p33 := HK5.out.cell 3
      have q0 := HK5.out.frozen 0
      have q1 := HK5.out.frozen 1
      have q2 := HK5.out.frozen 2
      have q3 := HK5.out.frozen 3
      simp at p10 p11 p12 p13 p20 p21 p30 p31 p32 p33
      clear hb5 K1 K2 k10 k11 k12 k13 k20 k21 k30 k31 k32 k33 z0 z1 z2 z3
      go_wp2_with fail
      have r1 := HK5.out.set4 (.int .i64 a.v.c) (.int .i64 a.v.s) (.int .i64 a.r) (.int .i64 a.a)
      refine bodyPost_ret (results_cl rfl rfl (r1.cell 0) (r1.cell 1) (r1.cell 2) (r1.cell 3)) rfl ⟨by rw [HY.out], ?_⟩
      exact at_below HB5.out HLE.out _ _ _ _
end Go.Proofs.YthakcefgbggkcaaDoor
