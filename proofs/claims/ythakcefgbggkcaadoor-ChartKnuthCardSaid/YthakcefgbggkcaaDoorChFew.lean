/- Small grammars and lattices. -/
import Derived.Test.YthakcefgbggkcaaDoorCMa
namespace Go.Proofs.YthakcefgbggkcaaDoor
open Go.RowKit

set_option maxRecDepth 100000 in
set_option maxHeartbeats 4000000 in
theorem few_any (w : World) (T N st S : Int) (RA LA FA : Option Addr) (nR rc nL lc nf fc : Nat) :
    Calls Tryd.prog 30 #[.agg #[.int .i64 T, .int .i64 N, .int .i64 st, .slice RA nR rc], .agg #[.int .i64 S, .slice LA nL lc, .slice FA nf fc], .int .i64 14, .int .i64 9, .int .i64 40] w fun e w' =>
      e = .returned (.bool (decide (N ≤ 10 ∧ T ≤ 8 ∧ nR ≤ 14 ∧ S ≤ 9 ∧ nL ≤ 40))) ∧ Below w.heap.size w w' := by
  obtain ⟨b, hb⟩ : ∃ b, decide (N ≤ 10 ∧ T ≤ 8 ∧ nR ≤ 14 ∧ S ≤ 9 ∧ nL ≤ 40) = b := ⟨_, rfl⟩
  rw [hb]
  have hB : Below w.heap.size w ((w.alloc (.cells #[.int .i64 T, .int .i64 N, .int .i64 st, .slice RA nR rc] 24)).alloc (.cells #[.int .i64 S, .slice LA nL lc, .slice FA nf fc] 28)) := ((Below.refl _ _).alloc (Nat.le_refl _) _).alloc (by simp) _
  have hc : (b = false ∧ (decide (N ≤ 10) = false ∨ (decide (N ≤ 10) = true ∧ decide (T ≤ 8) = false) ∨ (decide (N ≤ 10) = true ∧ decide (T ≤ 8) = true ∧ decide ((nR : Int) ≤ 14) = false) ∨ (decide (N ≤ 10) = true ∧ decide (T ≤ 8) = true ∧ decide ((nR : Int) ≤ 14) = true ∧ decide (S ≤ 9) = false) ∨
      (decide (N ≤ 10) = true ∧ decide (T ≤ 8) = true ∧ decide ((nR : Int) ≤ 14) = true ∧ decide (S ≤ 9) = true ∧ decide ((nL : Int) ≤ 40) = false))) ∨ (b = true ∧ decide (N ≤ 10) = true ∧ decide (T ≤ 8) = true ∧ decide ((nR : Int) ≤ 14) = true ∧ decide (S ≤ 9) = true ∧ decide ((nL : Int) ≤ 40) = true) := by
    cases b with
    | true =>
      right
      refine ⟨rfl, ?_⟩
      simp only [decide_eq_true_eq] at hb ⊢
      omega
    | false =>
      left
      refine ⟨rfl, ?_⟩
      simp only [decide_eq_false_iff_not, decide_eq_true_eq] at hb ⊢
      omega
  have HB := Lib.hid hB
  clear hb hB
  rcases hc with ⟨rfl, d1 | ⟨d1, d2⟩ | ⟨d1, d2, d3⟩ | ⟨d1, d2, d3, d4⟩ | ⟨d1, d2, d3, d4, d5⟩⟩ | ⟨rfl, d1, d2, d3, d4, d5⟩
  all_goals
    go_enter Tryd.func30, Tryd.ntmps30
    go_wp2_with fail
    go_ret
    exact ⟨rfl, HB.out⟩
end Go.Proofs.YthakcefgbggkcaaDoor
