/- The listed variable: its witness. -/
import Derived.Test.YthakcefgbggkcaaDoorCMa
import Derived.MakeChecks
import Derived.LaidHandle
import Derived.SevenTiedAt
namespace Go.Proofs.YthakcefgbggkcaaDoor
open Go.ChangeShapes Go.WideShapes Go.ChangeAt Go.RowKit

theorem laid_plain (w : World) (l : List (String × DataW Unit)) (h : (l.all fun x => x.2.handleName?.isNone) = true) : laidMetH Tryd.prog l w = laidMet Tryd.prog l w := Go.MakeChecks.laidMetH_plain _ _ _ h
theorem laid_all (os : Os) (args : Array Value) : laidMetH Tryd.prog [("emendate/chart.none", Rows.laid_emendate_chart_none)] ((World.laidAll Tryd.prog os [("emendate/chart.none", Rows.laid_emendate_chart_none)]).forCall (fun _ _ => 0) ⟨#[], args, []⟩).memory := by
  rw [laid_plain _ _ (by rfl)]
  exact laidMet_laidAll args (by kernel_rfl) (by kernel_rfl)
end Go.Proofs.YthakcefgbggkcaaDoor
