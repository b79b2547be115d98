/- The reference's value of an item of a span. -/
import Derived.Test.YthakcefgbggkcaaDoorChBet
import Derived.Test.YthakcefgbggkcaaDoorCMj
namespace Go.Proofs.YthakcefgbggkcaaDoor
open Go.RowKit

theorem vf_own {own : List Cl} {h : Nat} {y : Cl} (hy : own[h]? = some y) : vf own h = y.v := by unfold vf; rw [hy]; rfl
set_option maxRecDepth 100000 in
set_option maxHeartbeats 4000000 in
theorem rvalue_any (w : World) (N S nc cc B n oc s t : Nat) (CA OA : Option Addr) (cs own : List Cl) (x : It) (hC : Reads w B 4 CA nc (cls cs)) (hO : Reads w B 4 OA n (cls own)) (hB : B ≤ w.heap.size) (hN : N ≤ 10000) (hS : S ≤ 10000) (hnc : nc ≤ 1000000000000) (hx : 0 ≤ x.h ∧ x.h < n) :
    Calls Tryd.prog 55 #[.agg #[.int .i64 N, .int .i64 S, .slice CA nc cc], .slice OA n oc, .int .i64 s, .int .i64 t, .agg #[.int .i64 x.h, .int .i64 x.f, .int .i64 x.t]] w fun e w' =>
      e = .returned (.agg #[.int .i64 (spv (CC N S cs) s t (vf own) x).c, .int .i64 (spv (CC N S cs) s t (vf own) x).s]) ∧ Below w.heap.size w w' := by
  obtain ⟨W, hW⟩ : ∃ W, ((w.alloc (.cells #[.int .i64 N, .int .i64 S, .slice CA nc cc] 34)).alloc (.cells #[.int .i64 x.h, .int .i64 x.f, .int .i64 x.t] 61)).alloc (.cells #[.int .i64 0, .int .i64 0] 45) = W := ⟨_, rfl⟩
  obtain ⟨b, hb⟩ : ∃ b, w.heap.size = b := ⟨_, rfl⟩
  have K1 : Blk W b 34 #[.int .i64 N, .int .i64 S, .slice CA nc cc] := by rw [← hW]; exact ((Blk.new' _ _ _ hb).alloc _).alloc _
  have K2 : Blk W (b + 1) 61 #[.int .i64 x.h, .int .i64 x.f, .int .i64 x.t] := by rw [← hW]; exact (Blk.new' _ _ _ (by simp; omega)).alloc _
  have K3 : Blk W (b + 1 + 1) 45 #[.int .i64 0, .int .i64 0] := by rw [← hW]; exact Blk.new' _ _ _ (by simp; omega)
  have hBW : Below w.heap.size w W := by rw [← hW]; exact (((Below.refl _ _).alloc (Nat.le_refl _) _).alloc (by simp) _).alloc (by simp; omega) _
  have HW := Lib.hid hW
  have HB := Lib.hid hBW
  have HK3 := Lib.hid K3
  have HLE := Lib.hid (show w.heap.size ≤ b + 1 + 1 by omega)
  have HC := Lib.hid ((hC.more hB).below hBW)
  have HO := Lib.hid ((hO.more hB).below hBW)
  have k10 := K1.cell 0
  have k11 := K1.cell 1
  have k12 := K1.cell 2
  have k20 := K2.cell 0
  have k21 := K2.cell 1
  have k22 := K2.cell 2
  have k30 := K3.cell 0
  have k31 := K3.cell 1
  have z0 := K3.frozen 0
  have z1 := K3.frozen 1
  simp at k10 k11 k12 k20 k21 k22 k30 k31
  clear hW hBW K1 K2 K3 hC hO hB
  by_cases hown : x.f = s ∧ x.t = t
  · have d1 : (x.f == (s : Int)) = true := by simp [hown.1]
    have d2 : (x.t == (t : Int)) = true := by simp [hown.2]
    obtain ⟨h, hh⟩ := Int.eq_ofNat_of_zero_le hx.1
    have hhn : h < n := by have := hx.2; omega
    obtain ⟨bo, off, y, hOA, _, hy, c0, c1, c2, c3⟩ := HO.out.cl_at hhn
    have hres : spv (CC N S cs) s t (vf own) x = y.v := by
      unfold spv
      rw [if_pos (own_iff.2 hown), hh, Int.toNat_natCast, vf_own hy]
    rw [hres, hOA]
    rw [hh] at k20 ⊢
    rw [hh] at HW
    clear hres hy hx hown hh
    go_enter Tryd.func55, Tryd.ntmps55
    go_upto_region 1 with fail
    try rw [hb]
    rw [HW.out]
    go_wp2_with fail
    have r1 := HK3.out.set2 (.int .i64 y.v.c) (.int .i64 y.v.s)
    refine bodyPost_ret (results_val rfl rfl (r1.cell 0) (r1.cell 1)) rfl ⟨rfl, ?_⟩
    exact (HB.out.setCell (by show w.heap.size ≤ b + 1 + 1; exact HLE.out) _).setCell (by show w.heap.size ≤ b + 1 + 1; exact HLE.out) _
  · have hno : spv (CC N S cs) s t (vf own) x = (atC N S cs x).v := by
      unfold spv
      rw [if_neg (fun h => hown (own_iff.1 h))]
      rfl
    obtain ⟨y, hy⟩ : ∃ y, atC N S cs x = y := ⟨_, rfl⟩
    have HAT : Hid (Calls Tryd.prog 26 #[.agg #[.int .i64 N, .int .i64 S, .slice CA nc cc], .agg #[.int .i64 x.h, .int .i64 x.f, .int .i64 x.t]] W fun e w' => e = .returned (.agg #[.int .i64 y.v.c, .int .i64 y.v.s, .int .i64 y.r, .int .i64 y.a]) ∧ Below W.heap.size W w') := by
      have h := rat_any N S nc cc w.heap.size CA cs x W HC.out HB.out.size hN hS hnc
      rw [hy] at h
      exact h
    rw [hno, hy]
    have hfd : ∀ (c s r x : Int) (w : World), (Instr.field 47 (.agg #[.int .i64 c, .int .i64 s, .int .i64 r, .int .i64 x]) 0).run Tryd.prog w = .ok (.agg #[.int .i64 c, .int .i64 s]) w := fun _ _ _ _ _ => by kernel_rfl
    have hc : ((x.f == (s : Int)) = true ∧ (x.t == (t : Int)) = false) ∨ (x.f == (s : Int)) = false := by
      by_cases h1 : x.f = s
      · left; exact ⟨by simp [h1], by simp; exact fun h => hown ⟨h1, h⟩⟩
      · right; simp [h1]
    clear hno hy hown hx
    rcases hc with ⟨d1, d2⟩ | d1
    all_goals
      go_enter Tryd.func55, Tryd.ntmps55
      go_upto_region 1 with fail
      try rw [hb]
      rw [HW.out]
      go_wp2_with fail
      refine HAT.out.mono ?_
      rintro e w5 ⟨rfl, hb5⟩
      have HK5 := Lib.hid (HK3.out.below hb5 HK3.out.lt)
      have HB5 : Hid (Below w.heap.size w w5) := HB.out.trans (hb5.mono HB.out.size)
      have p30 := HK5.out.cell 0
      have p31 := HK5.out.cell 1
      have q0 := HK5.out.frozen 0
      have q1 := HK5.out.frozen 1
      simp at p30 p31
      clear hb5 k10 k11 k12 k20 k21 k22 k30 k31 z0 z1
      go_wp2_with fail
      have r1 := HK5.out.set2 (.int .i64 y.v.c) (.int .i64 y.v.s)
      refine bodyPost_ret (results_val rfl rfl (r1.cell 0) (r1.cell 1)) rfl ⟨rfl, ?_⟩
      exact (HB5.out.setCell (by show w.heap.size ≤ b + 1 + 1; exact HLE.out) _).setCell (by show w.heap.size ≤ b + 1 + 1; exact HLE.out) _
end Go.Proofs.YthakcefgbggkcaaDoor
