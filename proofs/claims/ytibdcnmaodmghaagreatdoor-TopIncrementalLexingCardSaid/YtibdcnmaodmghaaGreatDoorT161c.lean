/- A piece of the table is true. -/
import Derived.Test.YtibdcnmaodmghaaGreatDoorTabD
section
namespace Go.Proofs
open Go.RowKit Go.Ev
theorem Tryz.l161_2_ok : oks (Tryz.evl Tryz.ext1) 161 Tryz.l161_2 = true := by kernel_rfl
end Go.Proofs
end
