/- What the row asks of the program. -/
import Derived.Test.YtibdcnmaodmghaaGreatDoorFa
section
namespace Go.Proofs.YtibdcnmaodmghaaGreatDoor
open Go
set_option maxRecDepth 100000
theorem closed25 : joinedFacts Tryz.prog 3 Tryz.f3 Rows.topIncrementalLexingSpec Rows.topIncrementalLexingRow = true := by
  unfold joinedFacts
  rw [fa, fb, fc, fd, fe, fj, fk, fl, fm, fp, fq, fr, fs, ft]
  simp only [Bool.true_and, Bool.and_true]

  kernel_rfl
end Go.Proofs.YtibdcnmaodmghaaGreatDoor
end
