/- A piece of the table is true. -/
import Derived.Test.YtibdcnmaodmghaaGreatDoorTabD
section
namespace Go.Proofs
open Go.RowKit Go.Ev
theorem Tryz.l166_0_ok : oks (Tryz.evl Tryz.ext1) 166 Tryz.l166_0 = true := by kernel_rfl
end Go.Proofs
end
