/- LineindexPositions returns true for every text. -/
import Derived.Test.YthbcnpoldoklbaaLinSame
namespace Go.Proofs.Ythbcnpoldoklbaa
open Go.RowKit

set_option maxHeartbeats 1000000 in
theorem lawPositions_any (s : ByteArray) (w : World) : Calls Try.prog 5 #[.string s] w fun e w' => e = .returned (.bool true) ∧ Below w.heap.size w w' := by
  by_cases hs : s.size ≤ 300
  case neg =>
    have d0 : decide ((300 : Int) < s.size) = true := by simp; omega
    have d1 : decide (300 < s.size) = true := by simp; omega
    go_enter Try.func5, Try.ntmps5
    go_wp2_with fail
    refine (awake_any _).mono ?_
    rintro e w1 ⟨rfl, hb1⟩
    go_wp2_with fail
    go_ret
    exact ⟨rfl, hb1⟩
  have d0 : decide ((300 : Int) < s.size) = false := by simp; omega
  have d1 : decide (300 < s.size) = false := by simp; omega
  go_enter Try.func5, Try.ntmps5
  go_wp2_with fail
  refine (awake_any _).mono ?_
  rintro e w0 ⟨rfl, hb0⟩
  go_wp2_with fail
  refine (new_any s _ (by omega)).mono ?_
  rintro e w1 ⟨A, n, c, rfl, hn, R1, hb1⟩
  have hnl : n ≤ 300 := by
    rw [← R1.nats_len]
    have := startsTo_length s s.size
    unfold starts
    omega
  have HR := Lib.hid R1
  clear R1
  go_wp2_with fail
  refine (same_any s A n c w1.heap.size _ HR.out (Nat.le_refl _) (by omega) (by omega)).mono ?_
  rintro e w2 ⟨rfl, hb2⟩
  go_wp2_with fail
  go_ret
  have h1 := hb0.trans (hb1.mono hb0.size)
  exact ⟨rfl, h1.trans (hb2.mono h1.size)⟩
end Go.Proofs.Ythbcnpoldoklbaa
