/- What the row asks of the program, one by one. -/
import Derived.Test.YtibdcnmaodmghaaGreatDoorRows
import Derived.JoinedOf
section
namespace Go.Proofs.YtibdcnmaodmghaaGreatDoor
open Go
set_option maxRecDepth 100000
theorem fa : Rows.topIncrementalLexingRow.wf (OpenSpec.ofChange Rows.topIncrementalLexingSpec) = true := by kernel_rfl
theorem fb : laidOutB Tryz.prog = true := by kernel_rfl
theorem fc : mapsRowed Tryz.prog = true := by kernel_rfl
theorem fd : Tryz.f3.params.all (Tryz.prog.readableRec ·) = true := by kernel_rfl
theorem fe : namedTie Tryz.prog Rows.topIncrementalLexingRow.named Rows.topIncrementalLexingSpec.vars = true := by kernel_rfl
theorem fj : (Rows.topIncrementalLexingRow.inPlace == Tryz.prog.inPlace 3) = true := by kernel_rfl
theorem fk : (Rows.topIncrementalLexingRow.unfollowed == Tryz.prog.unfollowed 3) = true := by kernel_rfl
theorem fl : (Rows.topIncrementalLexingRow.recurses == Tryz.prog.recurses 3) = true := by kernel_rfl
theorem fm : (Rows.topIncrementalLexingRow.named == Tryz.prog.varsNamed 3) = true := by kernel_rfl
theorem fp : Tryz.prog.stopsHeard = true := by kernel_rfl
theorem fq : Tryz.prog.mayEnter = true := by kernel_rfl
theorem fr : (Rows.topIncrementalLexingRow.plainKeys == Tryz.prog.plainKeys) = true := by kernel_rfl
theorem fs : (Rows.topIncrementalLexingRow.lifted == Tryz.prog.liftsFinal) = true := by kernel_rfl
theorem ft : (Tryz.prog.make == some Rows.topIncrementalLexingRow.make) = true := by kernel_rfl
end Go.Proofs.YtibdcnmaodmghaaGreatDoor
end
