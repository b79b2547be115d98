/- Values compared; what the solver's last loop asks. -/
import Derived.Test.YtkeiakmfnammbaaKnCho
import Derived.Test.YtkeiakmfnammbaaExt
namespace Go.Proofs.Ytkeiakmfnammbaa
open Go.RowKit

theorem run_eql_vl (w : World) (a b x y : Int) :
    (binOp .eql 23 (.agg #[.int .i64 a, .int .i64 b]) (.agg #[.int .i64 x, .int .i64 y])).run Try.prog w = .ok (.bool (decide (a = x) && decide (b = y))) w := by
  simp only [binOp]
  by_cases h1 : a = x
  · by_cases h2 : b = y <;> simp [go_sem, Op.equal, Op.maxDepth, h1, h2]
  · simp [go_sem, Op.equal, Op.maxDepth, h1]
theorem run_neq_vl (w : World) (a b x y : Int) :
    (binOp .neq 23 (.agg #[.int .i64 a, .int .i64 b]) (.agg #[.int .i64 x, .int .i64 y])).run Try.prog w = .ok (.bool (!(decide (a = x) && decide (b = y)))) w := by
  simp only [binOp]
  by_cases h1 : a = x
  · by_cases h2 : b = y <;> simp [go_sem, Op.equal, Op.maxDepth, h1, h2]
  · simp [go_sem, Op.equal, Op.maxDepth, h1]
/-- What Solve returns: the least values and the first hyperedges that attain them. -/
def SolvePost (w : World) (N : Nat) (es : List Ed) (e : Ending) (w' : World) : Prop := ∃ (va ea : Nat) (V : List Vl), e = .returned (.tuple #[.slice (some ⟨va, 0, none⟩) N N, .slice (some ⟨ea, 0, none⟩) N N]) ∧ V.length = N ∧ Blk w' va 23 (vls V).toArray ∧ Blk w' ea 3 (ints (chs (gv V) es N)).toArray ∧ Sol es (gv V) ∧ w.heap.size ≤ va ∧ w.heap.size ≤ ea ∧ Below w.heap.size w w'
end Go.Proofs.Ytkeiakmfnammbaa
