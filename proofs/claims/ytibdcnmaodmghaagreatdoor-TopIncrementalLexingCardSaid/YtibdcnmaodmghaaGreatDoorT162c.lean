/- A piece of the table is true. -/
import Derived.Test.YtibdcnmaodmghaaGreatDoorTabD
section
namespace Go.Proofs
open Go.RowKit Go.Ev
theorem Tryz.l162_2_ok : oks (Tryz.evl Tryz.ext1) 162 Tryz.l162_2 = true := by kernel_rfl
end Go.Proofs
end
