/-
  DERIVED. GIVEN WITH THE SEED: THE PROGRAM's TIES (one call each: nine closed facts by the kernel) AND EACH ROW's TIE, after the 31st guide's Derived/Test/Toyas{Tie, Card}.lean. No idea stands in it: it is a product of the set-up. Laid BY PROGRAM, IN A SANDBOX (cutbox-door.mjs). By AI agents, Wed Nov 11 2026. No macro, syntax, notation, axiom, sorry.
-/
import Derived.Test.YtibdcnmaodmghaaGreatDoorRows
import Derived.LaidByTextLater
import Derived.SevenTiedAt
import Derived.LaidSub
import Derived.LaidOnce
namespace Go.Proofs.YtibdcnmaodmghaaGreatDoor
open Go
set_option maxRecDepth 100000
theorem seatTie1 : Tryz.prog.laidByTextLater [("emendate/editscript.actions", Rows.laid_emendate_editscript_actions), ("emendate/chart.none", Rows.laid_emendate_chart_none), ("emendate/lexspec.layoutTerms", Rows.laid_emendate_lexspec_layoutTerms)] [.funcs, .data, .widerDeep] true :=
  Program.laidByTextLater_by_one 25 8 5 (by kernel_rfl) (by kernel_rfl) (by kernel_rfl) (by kernel_rfl) (by kernel_rfl) (by kernel_rfl) (fun _ _ => by kernel_rfl)
theorem noOwnUnsafe : Tryz.pinned.checked.prog.headLifts.contains "ownunsafe" = false := by kernel_rfl
theorem tie : Tryz.prog.laidByTextLater [("emendate/lexspec.layoutTerms", Rows.laid_emendate_lexspec_layoutTerms)] [.widerDeep] true :=
  Program.laidByTextLater.sub seatTie1 ["emendate/lexspec.layoutTerms"] (by kernel_rfl) (by kernel_rfl)
theorem topIncrementalLexing_row_tie : Rows.topIncrementalLexingRow.laidByTextAt .later Tryz.pinned [.widerDeep] true :=
  OpenClaim.laidByTextAt_later rfl rfl tie noOwnUnsafe
theorem tie2 : Tryz.prog.laidByTextLater [("emendate/editscript.actions", Rows.laid_emendate_editscript_actions), ("emendate/chart.none", Rows.laid_emendate_chart_none)] [.funcs, .data] true :=
  Program.laidByTextLater.sub seatTie1 ["emendate/editscript.actions", "emendate/chart.none"] (by kernel_rfl) (by kernel_rfl)
theorem topLowerBoundSound_row_tie : Rows.topLowerBoundSoundRow.laidByTextAt .later Tryz.pinned [.funcs, .data] true :=
  OpenClaim.laidByTextAt_later rfl rfl tie2 noOwnUnsafe
theorem topGreatestPotential_row_tie : Rows.topGreatestPotentialRow.laidByTextAt .later Tryz.pinned [.funcs, .data] true :=
  OpenClaim.laidByTextAt_later rfl rfl tie2 noOwnUnsafe
theorem topIncrementalLexingUpto_row_tie : Rows.topIncrementalLexingUptoRow.laidByTextAt .later Tryz.pinned [.widerDeep] true :=
  OpenClaim.laidByTextAt_later rfl rfl tie noOwnUnsafe
theorem topLowerBoundSoundUpto_row_tie : Rows.topLowerBoundSoundUptoRow.laidByTextAt .later Tryz.pinned [.funcs, .data] true :=
  OpenClaim.laidByTextAt_later rfl rfl tie2 noOwnUnsafe
theorem topGreatestPotentialUpto_row_tie : Rows.topGreatestPotentialUptoRow.laidByTextAt .later Tryz.pinned [.funcs, .data] true :=
  OpenClaim.laidByTextAt_later rfl rfl tie2 noOwnUnsafe
end Go.Proofs.YtibdcnmaodmghaaGreatDoor
