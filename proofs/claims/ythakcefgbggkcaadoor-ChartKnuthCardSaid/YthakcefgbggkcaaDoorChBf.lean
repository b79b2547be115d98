/- The order of arcs. -/
import Derived.Test.YthakcefgbggkcaaDoorCMa
namespace Go.Proofs.YthakcefgbggkcaaDoor
open Go.RowKit

instance (a b : Ar) : Decidable (a.bf b) := by unfold Ar.bf; exact inferInstance
def Ar.val (a : Ar) : Value := .agg #[.int .i64 a.fr, .int .i64 a.tt, .int .i64 a.tm, .int .i64 a.co, .slice a.A a.n a.c]
set_option maxRecDepth 100000 in
set_option maxHeartbeats 4000000 in
theorem abefore_any (w : World) (a b : Ar) : Calls Tryd.prog 52 #[a.val, b.val] w fun e w' => e = .returned (.bool (decide (a.bf b))) ∧ Below w.heap.size w w' := by
  obtain ⟨r, hr⟩ : ∃ r, decide (a.bf b) = r := ⟨_, rfl⟩
  rw [hr]
  simp only [Ar.val]
  have hc : ((a.fr == b.fr) = false ∧ (a.fr != b.fr) = true ∧ decide (a.fr < b.fr) = r) ∨ ((a.fr == b.fr) = true ∧ (a.fr != b.fr) = false ∧ (a.tt == b.tt) = false ∧ (a.tt != b.tt) = true ∧ decide (a.tt < b.tt) = r) ∨ ((a.fr == b.fr) = true ∧ (a.fr != b.fr) = false ∧ (a.tt == b.tt) = true ∧ (a.tt != b.tt) = false ∧ decide (a.tm < b.tm) = r) := by
    rw [← hr]
    unfold Ar.bf
    by_cases h1 : a.fr = b.fr
    · by_cases h2 : a.tt = b.tt
      · right; right; simp [h1, h2]
      · right; left; simp [h1, h2]
    · left; simp [h1]
  have hB : Below w.heap.size w ((w.alloc (.cells #[.int .i64 a.fr, .int .i64 a.tt, .int .i64 a.tm, .int .i64 a.co, .slice a.A a.n a.c] 68)).alloc (.cells #[.int .i64 b.fr, .int .i64 b.tt, .int .i64 b.tm, .int .i64 b.co, .slice b.A b.n b.c] 68)) := ((Below.refl _ _).alloc (Nat.le_refl _) _).alloc (by simp) _
  have HB := Lib.hid hB
  clear hr hB
  rcases hc with ⟨d1, d1', d2⟩ | ⟨d1, d1', d2, d2', d3⟩ | ⟨d1, d1', d2, d2', d3⟩
  all_goals
    go_enter Tryd.func52, Tryd.ntmps52
    go_wp2_with fail
    go_ret
    exact ⟨rfl, HB.out⟩
end Go.Proofs.YthakcefgbggkcaaDoor
