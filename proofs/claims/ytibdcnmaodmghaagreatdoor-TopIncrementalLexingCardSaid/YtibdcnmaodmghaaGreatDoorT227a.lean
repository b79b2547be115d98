/- A piece of the table is true. -/
import Derived.Test.YtibdcnmaodmghaaGreatDoorTabD
section
namespace Go.Proofs
open Go.RowKit Go.Ev
theorem Tryz.l227_0_ok : oks (Tryz.evl ext0) 227 Tryz.l227_0 = true := by kernel_rfl
end Go.Proofs
end
