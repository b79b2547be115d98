/- The numbers of items and nodes: the reference's first, Index and Count of layer 39. -/
import Derived.Test.YthakcefgbggkcaaDoorChKR
import Derived.Test.YthakcefgbggkcaaDoorChCount
import Derived.Test.YthakcefgbggkcaaDoorCMj
namespace Go.Proofs.YthakcefgbggkcaaDoor
open Go.RowKit

set_option maxHeartbeats 2000000 in
theorem first_any (w : World) (T st : Int) (N S f t nR rc nL lc nf fc : Nat) (RA LA FA : Option Addr) (hft : f ≤ t) (htS : t < S) (hN : N ≤ 10000) (hS : S ≤ 10000) :
    Calls Tryd.prog 53 #[.agg #[.int .i64 T, .int .i64 N, .int .i64 st, .slice RA nR rc], .agg #[.int .i64 S, .slice LA nL lc, .slice FA nf fc], .int .i64 f, .int .i64 t] w fun e w' => e = .returned (.int .i64 (cix S f t * N : Nat)) ∧ Below w.heap.size w w' := by
  have htb := tri_bound hS (show f ≤ S by omega)
  obtain ⟨T1, hT⟩ : ∃ T1, tri S f = T1 := ⟨_, rfl⟩
  rw [hT] at htb
  have hcx : cix S f t = T1 + (t - f) := by unfold cix; rw [hT]
  have hcb : (T1 + (t - f)) * N ≤ 100010000 * 10000 := Nat.mul_le_mul (by omega) hN
  have hr : ((T1 : Int) + (t : Int) - (f : Int)) * (N : Int) = ((cix S f t * N : Nat) : Int) := by
    rw [hcx]; push_cast; rw [show ((t - f : Nat) : Int) = (t : Int) - f by omega, Int.add_sub_assoc]
  have u3 : IntKind.i64.wrap (((T1 : Int) + (t : Int) - (f : Int)) * (N : Int)) = ((cix S f t * N : Nat) : Int) := by rw [hr]; exact IntWalk.i64_in _ (by rw [hcx]; omega)
  obtain ⟨r, hrr⟩ : ∃ r, cix S f t * N = r := ⟨_, rfl⟩
  rw [hrr] at u3 ⊢
  have u7 : IntKind.i64.wrap ((T1 : Int) + (t : Int)) = (T1 : Int) + (t : Int) := IntWalk.i64_in _ (by omega)
  have u8 : IntKind.i64.wrap ((T1 : Int) + (t : Int) - (f : Int)) = (T1 : Int) + (t : Int) - (f : Int) := IntWalk.i64_in _ (by omega)
  have HT := Lib.hid hT
  obtain ⟨W, hW⟩ : ∃ W, (w.alloc (.cells #[.int .i64 T, .int .i64 N, .int .i64 st, .slice RA nR rc] 24)).alloc (.cells #[.int .i64 S, .slice LA nL lc, .slice FA nf fc] 28) = W := ⟨_, rfl⟩
  have K1 : Blk W w.heap.size 24 #[.int .i64 T, .int .i64 N, .int .i64 st, .slice RA nR rc] := by rw [← hW]; exact (Blk.new' _ _ _ rfl).alloc _
  have K2 : Blk W (w.heap.size + 1) 28 #[.int .i64 S, .slice LA nL lc, .slice FA nf fc] := by rw [← hW]; exact Blk.new' _ _ _ (by simp)
  have n1 := K1.cell 1
  have l0 := K2.cell 0
  simp at n1 l0
  have HB : Hid (Below w.heap.size w W) := by rw [← hW]; exact ((Below.refl _ _).alloc (Nat.le_refl _) _).alloc (by simp) _
  have HW := Lib.hid hW
  clear hT hcx hcb hr hrr K1 K2 hW
  go_enter Tryd.func53, Tryd.ntmps53
  go_upto_region 1 with fail
  rw [HW.out]
  go_wp2_with fail
  go_loopw [9, 10] (fun a x wr => ∃ s : Nat, s ≤ f ∧ x = .int .i64 s ∧ a = .int .i64 (tri S s : Nat) ∧ wr = W) (fun _ x _ => f - (intOf x).toNat)
  case atStart => exact ⟨0, Nat.zero_le _, rfl, rfl, rfl⟩
  case round =>
    obtain ⟨s, hs, rfl, rfl, rfl⟩ := hrel
    by_cases hlt : s < f
    case pos =>
      have hltD : decide (s < f) = true := by simp [hlt]
      have hb := tri_bound hS (show s ≤ S by omega)
      have hnx : tri S (s + 1) = tri S s + (S - s) := rfl
      obtain ⟨x, hx⟩ : ∃ x, tri S s = x := ⟨_, rfl⟩
      rw [hx] at hb hnx ⊢
      have e : ((tri S (s + 1) : Nat) : Int) = (x : Int) + (S : Int) - (s : Int) := by rw [hnx]; omega
      have v1 : IntKind.i64.wrap ((x : Int) + (S : Int)) = (x : Int) + (S : Int) := IntWalk.i64_in _ (by omega)
      have v2 : IntKind.i64.wrap ((x : Int) + (S : Int) - (s : Int)) = (x : Int) + (S : Int) - (s : Int) := IntWalk.i64_in _ (by omega)
      clear hx hnx u3 u7 u8
      go_wp2_with fail
      go_roundw
      case rel => exact ⟨s + 1, by omega, by go_num, by rw [e], by first | trivial | rfl⟩
      case measure => simp [intOf]; omega
    case neg =>
      have hltD : decide (s < f) = false := by simp [hlt]
      obtain rfl : s = f := by omega
      rw [HT.out]
      go_wp2_with fail
      go_ret
      exact ⟨rfl, HB.out⟩
set_option maxHeartbeats 2000000 in
theorem index_any (w : World) (T st : Int) (N S h f t nR rc nL lc nf fc : Nat) (RA LA FA : Option Addr) (hh : h < N) (hft : f ≤ t) (htS : t < S) (hN : N ≤ 10000) (hS : S ≤ 10000) :
    Calls Tryd.prog 37 #[.agg #[.int .i64 T, .int .i64 N, .int .i64 st, .slice RA nR rc], .agg #[.int .i64 S, .slice LA nL lc, .slice FA nf fc], .agg #[.int .i64 h, .int .i64 f, .int .i64 t]] w fun e w' => e = .returned (.tuple #[.int .i64 (cix S f t * N + h : Nat), .bool true]) ∧ Below w.heap.size w w' := by
  have htb := tri_bound hS (show f ≤ S by omega)
  have hcb : cix S f t * N ≤ 100010000 * 10000 := Nat.mul_le_mul (by unfold cix; omega) hN
  obtain ⟨W, hW⟩ : ∃ W, ((w.alloc (.cells #[.int .i64 T, .int .i64 N, .int .i64 st, .slice RA nR rc] 24)).alloc (.cells #[.int .i64 S, .slice LA nL lc, .slice FA nf fc] 28)).alloc (.cells #[.int .i64 h, .int .i64 f, .int .i64 t] 61) = W := ⟨_, rfl⟩
  have K1 : Blk W w.heap.size 24 #[.int .i64 T, .int .i64 N, .int .i64 st, .slice RA nR rc] := by rw [← hW]; exact ((Blk.new' _ _ _ rfl).alloc _).alloc _
  have K2 : Blk W (w.heap.size + 1) 28 #[.int .i64 S, .slice LA nL lc, .slice FA nf fc] := by rw [← hW]; exact (Blk.new' _ _ _ (by simp)).alloc _
  have K3 : Blk W (w.heap.size + 1 + 1) 61 #[.int .i64 h, .int .i64 f, .int .i64 t] := by rw [← hW]; exact Blk.new' _ _ _ (by simp)
  have HB : Hid (Below w.heap.size w W) := by rw [← hW]; exact (((Below.refl _ _).alloc (Nat.le_refl _) _).alloc (by simp) _).alloc (by simp; omega) _
  have n0 := K1.cell 0
  have n1 := K1.cell 1
  have n2 := K1.cell 2
  have n3 := K1.cell 3
  have l0 := K2.cell 0
  have l1 := K2.cell 1
  have l2 := K2.cell 2
  have i0 := K3.cell 0
  have i1 := K3.cell 1
  have i2 := K3.cell 2
  simp at n0 n1 n2 n3 l0 l1 l2 i0 i1 i2
  have HW := Lib.hid hW
  have HF := Lib.hid (fun w9 => first_any w9 T st N S f t nR rc nL lc nf fc RA LA FA hft htS hN hS)
  obtain ⟨r, hr⟩ : ∃ r, cix S f t * N = r := ⟨_, rfl⟩
  rw [hr] at hcb HF ⊢
  have D1 : decide ((h : Int) < 0) = false := by simp
  have D2 : decide (N ≤ h) = false := by simp; omega
  have D3 : decide ((f : Int) < 0) = false := by simp
  have D4 : decide (t < f) = false := by simp; omega
  have D5 : decide (S ≤ t) = false := by simp; omega
  have u1 : IntKind.i64.wrap ((r : Int) + (h : Int)) = (r : Int) + (h : Int) := IntWalk.i64_in _ (by omega)
  clear hr hW K1 K2 K3 htb
  go_enter Tryd.func37, Tryd.ntmps37
  go_upto_region 1 with fail
  rw [HW.out]
  go_upto_region 3 with fail
  refine wp_region_ext (by kernel_rfl) (by kernel_rfl) ?_
  have f0 := ext_cell n0
  have f1 := ext_cell n1
  have f2 := ext_cell n2
  have f3 := ext_cell n3
  have g0 := ext_cell l0
  have g1 := ext_cell l1
  have g2 := ext_cell l2
  have j0 := ext_cell i0
  have j1 := ext_cell i1
  have j2 := ext_cell i2
  repeat (go_big_quiet_step (with_reducible exact calls_ext (HF.out _)))
  refine wpQuiet_nil ?_
  rintro _ ⟨u, rfl⟩
  clear f0 f1 f2 f3 g0 g1 g2 j0 j1 j2
  go_wp2_with fail
  go_ret2
  exact ⟨by push_cast; rfl, HB.out.trans (u.h.mono HB.out.size)⟩
set_option maxHeartbeats 2000000 in
theorem count39_any (w : World) (T st : Int) (N S nR rc nL lc nf fc : Nat) (RA LA FA : Option Addr) (hN : N ≤ 1000) (hS : S ≤ 200) :
    Calls Tryd.prog 36 #[.agg #[.int .i64 T, .int .i64 N, .int .i64 st, .slice RA nR rc], .agg #[.int .i64 S, .slice LA nL lc, .slice FA nf fc]] w fun e w' => e = .returned (.int .i64 (tri S S * N + 1 : Nat)) ∧ Below w.heap.size w w' := by
  have hcc := cells_cnt 1 S
  simp only [Nat.one_mul, Nat.mul_one] at hcc
  have htb := tri_bound (show S ≤ 10000 by omega) (Nat.le_refl S)
  have hSS : S * (S + 1) ≤ 200 * 201 := Nat.mul_le_mul hS (by omega)
  obtain ⟨q, hq⟩ : ∃ q, tri S S = q := ⟨_, rfl⟩
  rw [hq] at hcc htb ⊢
  have hqN : q * N ≤ 20100 * 1000 := Nat.mul_le_mul (by omega) hN
  obtain ⟨nc, hnc⟩ : ∃ nc, q * N = nc := ⟨_, rfl⟩
  obtain ⟨y, hy⟩ : ∃ y : Int, (S : Int) * ((S : Int) + 1) = y := ⟨_, rfl⟩
  have hye : y = 2 * (q : Int) := by
    have h1 : ((S * (S + 1) : Nat) : Int) = ((2 * q : Nat) : Int) := by rw [hcc]
    rw [← hy]
    push_cast at h1 ⊢
    exact h1
  have hxe : (q : Int) * (N : Int) = (nc : Int) := by rw [← hnc]; push_cast; rfl
  rw [hnc] at hqN ⊢
  have u2 : IntKind.i64.wrap ((S : Int) + 1) = (S : Int) + 1 := IntWalk.i64_in _ (by omega)
  have u3 : IntKind.i64.wrap ((S : Int) * ((S : Int) + 1)) = y := by rw [hy, hye]; exact IntWalk.i64_in _ (by omega)
  have u4 : y / 2 = (q : Int) := by omega
  have u4' : y.tdiv 2 = (q : Int) := by rw [Int.tdiv_eq_ediv_of_nonneg (by omega)]; omega
  have u5 : IntKind.i64.wrap (q : Int) = (q : Int) := IntWalk.i64_in _ (by omega)
  have u6 : IntKind.i64.wrap ((q : Int) * (N : Int)) = (nc : Int) := by rw [hxe]; exact IntWalk.i64_in _ (by omega)
  have u7 : IntKind.i64.wrap ((nc : Int) + 1) = (nc : Int) + 1 := IntWalk.i64_in _ (by omega)
  have hyb : 0 ≤ y := by omega
  clear hy hye hxe hnc hcc hq
  go_enter Tryd.func36, Tryd.ntmps36
  go_wp2_with fail
  go_ret
  exact ⟨by push_cast; rfl, ((Below.refl _ _).alloc (Nat.le_refl _) _).alloc (by simp) _⟩
end Go.Proofs.YthakcefgbggkcaaDoor
