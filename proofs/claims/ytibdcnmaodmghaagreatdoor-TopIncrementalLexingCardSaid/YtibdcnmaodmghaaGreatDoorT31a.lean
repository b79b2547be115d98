/- A piece of the table is true. -/
import Derived.Test.YtibdcnmaodmghaaGreatDoorTabD
section
namespace Go.Proofs
open Go.RowKit Go.Ev
theorem Tryz.l31_0_ok : oks (Tryz.evl Tryz.ext2) 31 Tryz.l31_0 = true := by kernel_rfl
end Go.Proofs
end
