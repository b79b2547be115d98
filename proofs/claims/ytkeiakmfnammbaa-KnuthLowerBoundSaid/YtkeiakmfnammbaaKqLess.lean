/- The order of the candidates: by value. -/
import Derived.Test.YtkeiakmfnammbaaKqEnt
namespace Go.Proofs.Ytkeiakmfnammbaa
open Go.RowKit

/-- The order of values: by cost, then by size. -/
def vlt (c s c' s' : Int) : Bool := decide (c < c') || (c == c' && decide (s < s'))
theorem vless_any (c s c' s' : Int) (w : World) : Calls Try.prog 13 #[.agg #[.int .i64 c, .int .i64 s], .agg #[.int .i64 c', .int .i64 s']] w fun e w' => e = .returned (.bool (vlt c s c' s')) ∧ Below w.heap.size w w' := by
  have hv : vlt c s c' s' = (decide (c < c') || (c == c' && decide (s < s'))) := rfl
  rw [hv]
  clear hv
  by_cases h1 : c < c'
  · have d1 : decide (c < c') = true := by simp [h1]
    go_enter Try.func13, Try.ntmps13
    go_wp2_with fail
    go_ret
    exact ⟨by simp [h1], ((Below.refl _ _).alloc (Nat.le_refl _) _).alloc (by simp) _⟩
  · have d1 : decide (c < c') = false := by simp [h1]
    by_cases h2 : c = c'
    · have d2 : (c == c') = true := by simp [h2]
      clear h1
      go_enter Try.func13, Try.ntmps13
      go_wp2_with fail
      go_ret
      exact ⟨by simp [h2], ((Below.refl _ _).alloc (Nat.le_refl _) _).alloc (by simp) _⟩
    · have d2 : (c == c') = false := by simp [h2]
      clear h1 h2
      go_enter Try.func13, Try.ntmps13
      go_wp2_with fail
      go_ret
      exact ⟨by simp [d1, d2], ((Below.refl _ _).alloc (Nat.le_refl _) _).alloc (by simp) _⟩
theorem less_any (x y : Ent) (w : World) : Calls Try.prog 30 #[.agg #[.int .i64 x.node, .int .i64 x.cost, .int .i64 x.size], .agg #[.int .i64 y.node, .int .i64 y.cost, .int .i64 y.size]] w fun e w' => e = .returned (.bool (lt x y)) ∧ Below w.heap.size w w' := by
  obtain ⟨x0, x1, x2, xh, xt⟩ := x
  obtain ⟨y0, y1, y2, yh, yt⟩ := y
  show Calls Try.prog 30 #[.agg #[.int .i64 x0, .int .i64 x1, .int .i64 x2], .agg #[.int .i64 y0, .int .i64 y1, .int .i64 y2]] w fun e w' => e = .returned (.bool (vlt x1 x2 y1 y2)) ∧ Below w.heap.size w w'
  go_enter Try.func30, Try.ntmps30
  go_wp2_with fail
  refine (vless_any x1 x2 y1 y2 _).mono ?_
  rintro e w1 ⟨rfl, hb1⟩
  simp only [World.size_alloc] at hb1
  go_wp2_with fail
  go_ret
  exact ⟨rfl, (((Below.refl _ _).alloc (Nat.le_refl _) _).alloc (by simp) _).trans (hb1.mono (by omega))⟩
end Go.Proofs.Ytkeiakmfnammbaa
