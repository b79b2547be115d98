/-
  DERIVED. GIVEN WITH THE SEED: THE CARDS: each row of YtibdcnmaodmghaaGreatDoorRows.lean that lists a variable, with what it lists TIED to the program's text (the seventh form; the later family's looks); each row that meets fmt, with fmt's text TOLD by the authors' own Lean function (tested against real Go, not proved from fmt's source: count such statements apart). THE CARD IS WHAT COUNTS. Prove the row's statement (the work); the ties are given (YtibdcnmaodmghaaGreatDoorTie.lean); close each card by the builder's one call (the guide's Derived/Test/ToyasCard.lean, 'card_holds'). Laid BY PROGRAM, IN A SANDBOX (cutbox-door.mjs). By AI agents, Wed Nov 11 2026. No macro, syntax, notation, axiom, sorry.
-/
import Derived.Test.YtibdcnmaodmghaaGreatDoorRows
import GoSem.ClaimSeven
namespace Go.Proofs.YtibdcnmaodmghaaGreatDoor
namespace Rows

/-- THE TIED CARD OF 'emendatetop.TopIncrementalLexing'. -/
def topIncrementalLexingCard : Claim7 := { stood := { row := topIncrementalLexingRow, standIns := [], harness := (true, "7c7f0dbfa541ddd8d93c3221a815799b00af414facd04b143ab22701e43538db"), looks := true }, kinds := [], alts := [], laidByText := true, laidKinds := [.widerDeep], laidTests := true, laidLooks := .later }
def TopIncrementalLexingCardSaid : Prop := Claim7.holds Tryz.pinned (.plain (OpenSpec.ofChange topIncrementalLexingSpec)) topIncrementalLexingCard

/-- THE TIED CARD OF 'emendatetop.TopLowerBoundSound'. -/
def topLowerBoundSoundCard : Claim7 := { stood := { row := topLowerBoundSoundRow, standIns := [], harness := (true, "7c7f0dbfa541ddd8d93c3221a815799b00af414facd04b143ab22701e43538db"), looks := true }, kinds := [], alts := [], laidByText := true, laidKinds := [.funcs, .data], laidTests := true, laidLooks := .later }
def TopLowerBoundSoundCardSaid : Prop := Claim7.holds Tryz.pinned (.plain (OpenSpec.ofChange topLowerBoundSoundSpec)) topLowerBoundSoundCard

/-- THE TIED CARD OF 'emendatetop.TopGreatestPotential'. -/
def topGreatestPotentialCard : Claim7 := { stood := { row := topGreatestPotentialRow, standIns := [], harness := (true, "7c7f0dbfa541ddd8d93c3221a815799b00af414facd04b143ab22701e43538db"), looks := true }, kinds := [], alts := [], laidByText := true, laidKinds := [.funcs, .data], laidTests := true, laidLooks := .later }
def TopGreatestPotentialCardSaid : Prop := Claim7.holds Tryz.pinned (.plain (OpenSpec.ofChange topGreatestPotentialSpec)) topGreatestPotentialCard

/-- THE SECOND FORM's CARD OF 'emendatetop.TopIncrementalLexing'. -/
def topIncrementalLexingUptoCard : Claim7 := { stood := { row := topIncrementalLexingUptoRow, standIns := [], harness := (true, "7c7f0dbfa541ddd8d93c3221a815799b00af414facd04b143ab22701e43538db"), looks := true }, kinds := [], alts := [], laidByText := true, laidKinds := [.widerDeep], laidTests := true, laidLooks := .later }
def TopIncrementalLexingUptoCardSaid : Prop := Claim7.holds Tryz.pinned (.plain (OpenSpec.upto topIncrementalLexingSpec)) topIncrementalLexingUptoCard

/-- THE SECOND FORM's CARD OF 'emendatetop.TopLowerBoundSound'. -/
def topLowerBoundSoundUptoCard : Claim7 := { stood := { row := topLowerBoundSoundUptoRow, standIns := [], harness := (true, "7c7f0dbfa541ddd8d93c3221a815799b00af414facd04b143ab22701e43538db"), looks := true }, kinds := [], alts := [], laidByText := true, laidKinds := [.funcs, .data], laidTests := true, laidLooks := .later }
def TopLowerBoundSoundUptoCardSaid : Prop := Claim7.holds Tryz.pinned (.plain (OpenSpec.upto topLowerBoundSoundSpec)) topLowerBoundSoundUptoCard

/-- THE SECOND FORM's CARD OF 'emendatetop.TopGreatestPotential'. -/
def topGreatestPotentialUptoCard : Claim7 := { stood := { row := topGreatestPotentialUptoRow, standIns := [], harness := (true, "7c7f0dbfa541ddd8d93c3221a815799b00af414facd04b143ab22701e43538db"), looks := true }, kinds := [], alts := [], laidByText := true, laidKinds := [.funcs, .data], laidTests := true, laidLooks := .later }
def TopGreatestPotentialUptoCardSaid : Prop := Claim7.holds Tryz.pinned (.plain (OpenSpec.upto topGreatestPotentialSpec)) topGreatestPotentialUptoCard
end Rows
end Go.Proofs.YtibdcnmaodmghaaGreatDoor
