/- A piece of the table is true. -/
import Derived.Test.YtibdcnmaodmghaaGreatDoorTabD
section
namespace Go.Proofs
open Go.RowKit Go.Ev
theorem Tryz.l231_0_ok : oks (Tryz.evl ext0) 231 Tryz.l231_0 = true := by kernel_rfl
end Go.Proofs
end
