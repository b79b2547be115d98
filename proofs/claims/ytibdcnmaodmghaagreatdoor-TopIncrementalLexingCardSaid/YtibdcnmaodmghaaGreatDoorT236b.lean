/- A piece of the table is true. -/
import Derived.Test.YtibdcnmaodmghaaGreatDoorTabD
section
namespace Go.Proofs
open Go.RowKit Go.Ev
theorem Tryz.l236_1_ok : oks (Tryz.evl ext0) 236 Tryz.l236_1 = true := by kernel_rfl
end Go.Proofs
end
