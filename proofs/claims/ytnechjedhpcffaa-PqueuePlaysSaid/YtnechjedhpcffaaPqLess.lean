/- The order of the elements: Less. -/
import Derived.Test.YtnechjedhpcffaaPqEnt
namespace Go.Proofs.Ytnechjedhpcffaa
open Go.RowKit

theorem less_any (x y : Ent) (w : World) : Calls Try.prog 10 #[.agg #[.int .i64 x.key, .int .i64 x.id], .agg #[.int .i64 y.key, .int .i64 y.id]] w fun e w' => e = .returned (.bool (lt x y)) ∧ Below w.heap.size w w' := by
  obtain ⟨x0, x1, xh, xt⟩ := x
  obtain ⟨y0, y1, yh, yt⟩ := y
  show Calls Try.prog 10 #[.agg #[.int .i64 x0, .int .i64 x1], .agg #[.int .i64 y0, .int .i64 y1]] w fun e w' => e = .returned (.bool (decide (x0 < y0))) ∧ Below w.heap.size w w'
  go_enter Try.func10, Try.ntmps10
  go_wp2_with fail
  go_ret
  exact ⟨rfl, ((Below.refl _ _).alloc (Nat.le_refl _) _).alloc (by simp) _⟩
end Go.Proofs.Ytnechjedhpcffaa
