/- The number of cells. -/
import Derived.Test.YthakcefgbggkcaaDoorCMa
namespace Go.Proofs.YthakcefgbggkcaaDoor
open Go.RowKit

theorem cells_cnt (N S : Nat) : (N * S) * (S + 1) = 2 * (tri S S * N) := by
  have h := tri_sq S S (Nat.le_refl S)
  have e : S * (S - 1) + S = S * S := by
    cases S with
    | zero => rfl
    | succ S => rw [Nat.add_sub_cancel]; exact (Nat.mul_succ (S + 1) S).symm
  have h2 : 2 * tri S S = S * (S + 1) := by rw [Nat.mul_succ]; omega
  rw [← Nat.mul_assoc, h2, Nat.mul_assoc, Nat.mul_comm]
set_option maxRecDepth 100000 in
set_option maxHeartbeats 2000000 in
theorem count_any (w : World) (N S : Nat) (hN : N ≤ 1000) (hS : S ≤ 200) : Calls Tryd.prog 34 #[.int .i64 N, .int .i64 S] w fun e w' => e = .returned (.int .i64 (tri S S * N : Nat)) ∧ Below w.heap.size w w' := by
  obtain ⟨nc, hnc⟩ : ∃ nc, tri S S * N = nc := ⟨_, rfl⟩
  have hNS : N * S ≤ 1000 * 200 := Nat.mul_le_mul hN hS
  have hcc := cells_cnt N S
  have hncb : (N * S) * (S + 1) ≤ 200000 * 201 := Nat.mul_le_mul hNS (by omega)
  rw [hnc] at hcc ⊢
  have hnb : nc ≤ 30000000 := by omega
  obtain ⟨x, hx⟩ : ∃ x : Int, (N : Int) * (S : Int) = x := ⟨_, rfl⟩
  have hxe : x = ((N * S : Nat) : Int) := by rw [← hx]; push_cast; rfl
  obtain ⟨y, hy⟩ : ∃ y : Int, x * ((S : Int) + 1) = y := ⟨_, rfl⟩
  have hye : y = 2 * (nc : Int) := by
    have h1 : (((N * S) * (S + 1) : Nat) : Int) = ((2 * nc : Nat) : Int) := by rw [hcc]
    rw [← hy, hxe]
    push_cast at h1 ⊢
    exact h1
  have u1 : IntKind.i64.wrap ((N : Int) * (S : Int)) = x := by rw [hx, hxe]; exact IntWalk.i64_in _ (by omega)
  have u2 : IntKind.i64.wrap ((S : Int) + 1) = (S : Int) + 1 := IntWalk.i64_in _ (by omega)
  have u3 : IntKind.i64.wrap (x * ((S : Int) + 1)) = y := by rw [hy, hye]; exact IntWalk.i64_in _ (by omega)
  have u4 : y / 2 = (nc : Int) := by omega
  have u5 : IntKind.i64.wrap (nc : Int) = (nc : Int) := IntWalk.i64_in _ (by omega)
  have hyb : 0 ≤ y := by omega
  clear hcc hncb hNS hx hxe hy hye
  go_enter Tryd.func34, Tryd.ntmps34
  go_wp2_with fail
  have HU := Lib.hid u4
  clear u1 u2 u3 u4 u5 hyb
  go_ret
  exact ⟨by show Ending.returned (.int .i64 (y / 2)) = _; rw [HU.out], Below.refl _ _⟩
end Go.Proofs.YthakcefgbggkcaaDoor
