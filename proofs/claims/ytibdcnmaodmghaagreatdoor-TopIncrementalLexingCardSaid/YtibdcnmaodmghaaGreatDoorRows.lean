/-
  NARROWER THAN 'FOR EVERY INPUT', by the rows' own cells (each row's printed sentence says how): TopIncrementalLexing: laid · TopLowerBoundSound: loops, laid · TopGreatestPotential: loops, laid.
  DERIVED. THE GIVEN ROWS OF THIS SEAT. 3 by the template 'for every input the law returns true; each argument reads behind the call as it read before'; 0 by the template 'total and deterministic' (their statements: YtibdcnmaodmghaaGreatDoorTotals.lean).
  GIVEN WITH THE SEED: the statements are not yours to turn. If you find one false, say at which input.
  Laid BY PROGRAM, IN A SANDBOX (cutbox-rows.mjs): the forced cells as the released guide's own fill.sh prints them over the translation 3c5c962cd893b8c1… (all of the seat's roots in one cut). By AI agents, Wed Nov 11 2026. No macro, syntax, notation, axiom, sorry.
-/
import Derived.Test.YtibdcnmaodmghaaGreatDoorChecked
import GoSem.Claim
import GoSem.ClaimJoined
import GoSem.ClaimMapViews
import Derived.JoinedTies
import Derived.KernelRfl
namespace Go.Proofs.YtibdcnmaodmghaaGreatDoor
/- THE CELL 'sum', in the pinned program and in every row, IS THE sha256 OF THE DUMP (.gsa) THAT YtibdcnmaodmghaaGreatDoorProg.lean LOADS. Nothing in Lean hashes anything: it is a label: what it is worth is what the hold of that sum in a sandbox is worth. -/
noncomputable def Tryz.pinned : Pinned := { name := "ytibdcnmaodmghaagreatdoor", sum := "3c5c962cd893b8c124f2defd878538d4a235bef36643383163e7ccea6e6ba252", checked := Tryz.checked }
namespace Rows
def none {H : Type} : Left H := { results := [], args := [] }

/- WHAT THE LISTED PACKAGE-LEVEL VARIABLES READ AS WHEN THE CALL BEGINS. Each datum BY PROGRAM (the guide's laid-datum.mjs) off the statement by which the dump's own 'gosem.cut.vars' lays the variable. In a bare row this is a premise. The card (YtibdcnmaodmghaaGreatDoorCards.lean) ties it to the program's text. -/
def laid_emendate_lexspec_layoutTerms {H : Type} : DataW H := .agg [.lit (.string [110, 101, 119, 108, 105, 110, 101]), .lit (.string [105, 110, 100, 101, 110, 116]), .lit (.string [100, 101, 100, 101, 110, 116])]
def laid_emendate_editscript_actions {H : Type} : DataW H := .iface "func table" (.agg [.nil, .iface "func" (.lit (.string [40, 42, 101, 109, 101, 110, 100, 97, 116, 101, 47, 101, 100, 105, 116, 115, 99, 114, 105, 112, 116, 46, 115, 116, 97, 116, 101, 41, 46, 114, 101, 97, 100])), .iface "func" (.lit (.string [40, 42, 101, 109, 101, 110, 100, 97, 116, 101, 47, 101, 100, 105, 116, 115, 99, 114, 105, 112, 116, 46, 115, 116, 97, 116, 101, 41, 46, 114, 101, 109, 111, 118, 101])), .iface "func" (.lit (.string [40, 42, 101, 109, 101, 110, 100, 97, 116, 101, 47, 101, 100, 105, 116, 115, 99, 114, 105, 112, 116, 46, 115, 116, 97, 116, 101, 41, 46, 105, 110, 115, 101, 114, 116])), .iface "func" (.lit (.string [40, 42, 101, 109, 101, 110, 100, 97, 116, 101, 47, 101, 100, 105, 116, 115, 99, 114, 105, 112, 116, 46, 115, 116, 97, 116, 101, 41, 46, 115, 119, 97, 112]))])
def laid_emendate_chart_none {H : Type} : DataW H := .agg [.agg [.lit (.int .i64 1099511627776), .lit (.int .i64 0)], .lit (.int .i64 (-1)), .lit (.int .i64 0)]

/-- 'emendatetop.TopIncrementalLexing': WHATEVER THE INPUT: true; the input reads as it did. -/
def topIncrementalLexingSpec : ChangeSpec := { name := "topIncrementalLexing", fn := fun _ => fun
  | [d1, d2] => { results := [.lit (.bool true)], args := [d1, d2] }
  | _ => none }
def topIncrementalLexingRow : OpenClaim := { program := "ytibdcnmaodmghaagreatdoor", sum := "3c5c962cd893b8c124f2defd878538d4a235bef36643383163e7ccea6e6ba252", func := "emendate/emendatetop.TopIncrementalLexing", spec := "topIncrementalLexing", inPlace := ["internal/bytealg.IndexByteString", "internal/abi.NoEscape"], unfollowed := true, recurses := true, named := ["emendate/lexspec.layoutTerms"], plainKeys := false, apart := false, laid := [("emendate/lexspec.layoutTerms", laid_emendate_lexspec_layoutTerms)] }
def TopIncrementalLexingSaid : Prop := topIncrementalLexingRow.holds Tryz.pinned (OpenSpec.ofChange topIncrementalLexingSpec)

/-- ITS FALSE NEIGHBOUR: 'it returns false'. Refute it at one input. -/
def topIncrementalLexingWrong : ChangeSpec := { name := "topIncrementalLexing", fn := fun _ => fun
  | [d1, d2] => { results := [.lit (.bool false)], args := [d1, d2] }
  | _ => none }
def TopIncrementalLexingWrongFalsely : Prop := topIncrementalLexingRow.holds Tryz.pinned (OpenSpec.ofChange topIncrementalLexingWrong)

/-- 'emendatetop.TopLowerBoundSound': WHATEVER THE INPUT: true; the input reads as it did. -/
def topLowerBoundSoundSpec : ChangeSpec := { name := "topLowerBoundSound", fn := fun _ => fun
  | [d1, d2, d3] => { results := [.lit (.bool true)], args := [d1, d2, d3] }
  | _ => none }
def topLowerBoundSoundRow : OpenClaim := { program := "ytibdcnmaodmghaagreatdoor", sum := "3c5c962cd893b8c124f2defd878538d4a235bef36643383163e7ccea6e6ba252", func := "emendate/emendatetop.TopLowerBoundSound", spec := "topLowerBoundSound", inPlace := ["internal/bytealg.IndexByteString", "internal/bytealg.IndexString"], unfollowed := true, recurses := true, named := ["internal/bytealg.MaxLen", "emendate/chart.none", "emendate/editscript.actions"], loops := true, plainKeys := false, apart := false, laid := [("emendate/editscript.actions", laid_emendate_editscript_actions), ("emendate/chart.none", laid_emendate_chart_none)] }
def TopLowerBoundSoundSaid : Prop := topLowerBoundSoundRow.holds Tryz.pinned (OpenSpec.ofChange topLowerBoundSoundSpec)

/-- ITS FALSE NEIGHBOUR: 'it returns false'. Refute it at one input. -/
def topLowerBoundSoundWrong : ChangeSpec := { name := "topLowerBoundSound", fn := fun _ => fun
  | [d1, d2, d3] => { results := [.lit (.bool false)], args := [d1, d2, d3] }
  | _ => none }
def TopLowerBoundSoundWrongFalsely : Prop := topLowerBoundSoundRow.holds Tryz.pinned (OpenSpec.ofChange topLowerBoundSoundWrong)

/-- 'emendatetop.TopGreatestPotential': WHATEVER THE INPUT: true; the input reads as it did. -/
def topGreatestPotentialSpec : ChangeSpec := { name := "topGreatestPotential", fn := fun _ => fun
  | [d1, d2] => { results := [.lit (.bool true)], args := [d1, d2] }
  | _ => none }
def topGreatestPotentialRow : OpenClaim := { program := "ytibdcnmaodmghaagreatdoor", sum := "3c5c962cd893b8c124f2defd878538d4a235bef36643383163e7ccea6e6ba252", func := "emendate/emendatetop.TopGreatestPotential", spec := "topGreatestPotential", inPlace := ["internal/bytealg.IndexByteString", "internal/bytealg.IndexString"], unfollowed := true, recurses := true, named := ["internal/bytealg.MaxLen", "emendate/chart.none", "emendate/editscript.actions"], loops := true, plainKeys := false, apart := false, laid := [("emendate/editscript.actions", laid_emendate_editscript_actions), ("emendate/chart.none", laid_emendate_chart_none)] }
def TopGreatestPotentialSaid : Prop := topGreatestPotentialRow.holds Tryz.pinned (OpenSpec.ofChange topGreatestPotentialSpec)

/-- ITS FALSE NEIGHBOUR: 'it returns false'. Refute it at one input. -/
def topGreatestPotentialWrong : ChangeSpec := { name := "topGreatestPotential", fn := fun _ => fun
  | [d1, d2] => { results := [.lit (.bool false)], args := [d1, d2] }
  | _ => none }
def TopGreatestPotentialWrongFalsely : Prop := topGreatestPotentialRow.holds Tryz.pinned (OpenSpec.ofChange topGreatestPotentialWrong)

/- THE SECOND FORM. 'bulk': how many values and letters a reading holds, each counted each time it is reached (what is shared counts as often as it is met; a slice's spare places count too). A statement '..UptoSaid' is the law's where the arguments, and the package variables that the reading takes, are together of bulk at most 1048576: NARROWER than '..Said'. Prove '..Said' where nothing that the law and all that it calls make is longer than what came in: it says more and counts as full. Else prove '..UptoSaid'. A law counts once. -/
mutual
def uptoBulk {H : Type} : DataW H → Nat
  | .lit (.string bytes) => bytes.length + 1
  | .lit _ => 1
  | .nil => 1
  | .ptr d => uptoBulk d + 1
  | .slice elems spare => uptoBulkAll elems + uptoBulkAll spare + 1
  | .agg parts => uptoBulkAll parts + 1
  | .iface _ d => uptoBulk d + 1
  | .map entries => uptoBulkEntries entries + 1
  | .held _ => 1
def uptoBulkAll {H : Type} : List (DataW H) → Nat
  | [] => 0
  | d :: r => uptoBulk d + uptoBulkAll r
def uptoBulkEntries {H : Type} : List (Lit × DataW H) → Nat
  | [] => 0
  | x :: r => uptoBulkEntry x + uptoBulkEntries r
def uptoBulkEntry {H : Type} : Lit × DataW H → Nat
  | (.string bytes, d) => bytes.length + uptoBulk d + 1
  | (_, d) => uptoBulk d + 1
 end
def uptoSmall : (H : Type) → List (DataW H) → Bool := fun _ ds => decide (uptoBulkAll ds ≤ 1048576)
def OpenSpec.upto (s : _root_.Go.ChangeSpec) : _root_.Go.OpenSpec := { _root_.Go.OpenSpec.ofChange s with cond := some uptoSmall }

/-- 'emendatetop.TopIncrementalLexing', WHERE WHAT IT READS IS OF BULK AT MOST 1048576: true; the input reads as it did. -/
def topIncrementalLexingUptoRow : OpenClaim := { program := "ytibdcnmaodmghaagreatdoor", sum := "3c5c962cd893b8c124f2defd878538d4a235bef36643383163e7ccea6e6ba252", func := "emendate/emendatetop.TopIncrementalLexing", spec := "topIncrementalLexing", inPlace := ["internal/bytealg.IndexByteString", "internal/abi.NoEscape"], unfollowed := true, recurses := true, named := ["emendate/lexspec.layoutTerms"], plainKeys := false, apart := false, laid := [("emendate/lexspec.layoutTerms", laid_emendate_lexspec_layoutTerms)], narrowed := true }
def TopIncrementalLexingUptoSaid : Prop := topIncrementalLexingUptoRow.holds Tryz.pinned (OpenSpec.upto topIncrementalLexingSpec)

/-- 'emendatetop.TopLowerBoundSound', WHERE WHAT IT READS IS OF BULK AT MOST 1048576: true; the input reads as it did. -/
def topLowerBoundSoundUptoRow : OpenClaim := { program := "ytibdcnmaodmghaagreatdoor", sum := "3c5c962cd893b8c124f2defd878538d4a235bef36643383163e7ccea6e6ba252", func := "emendate/emendatetop.TopLowerBoundSound", spec := "topLowerBoundSound", inPlace := ["internal/bytealg.IndexByteString", "internal/bytealg.IndexString"], unfollowed := true, recurses := true, named := ["internal/bytealg.MaxLen", "emendate/chart.none", "emendate/editscript.actions"], loops := true, plainKeys := false, apart := false, laid := [("emendate/editscript.actions", laid_emendate_editscript_actions), ("emendate/chart.none", laid_emendate_chart_none)], narrowed := true }
def TopLowerBoundSoundUptoSaid : Prop := topLowerBoundSoundUptoRow.holds Tryz.pinned (OpenSpec.upto topLowerBoundSoundSpec)

/-- 'emendatetop.TopGreatestPotential', WHERE WHAT IT READS IS OF BULK AT MOST 1048576: true; the input reads as it did. -/
def topGreatestPotentialUptoRow : OpenClaim := { program := "ytibdcnmaodmghaagreatdoor", sum := "3c5c962cd893b8c124f2defd878538d4a235bef36643383163e7ccea6e6ba252", func := "emendate/emendatetop.TopGreatestPotential", spec := "topGreatestPotential", inPlace := ["internal/bytealg.IndexByteString", "internal/bytealg.IndexString"], unfollowed := true, recurses := true, named := ["internal/bytealg.MaxLen", "emendate/chart.none", "emendate/editscript.actions"], loops := true, plainKeys := false, apart := false, laid := [("emendate/editscript.actions", laid_emendate_editscript_actions), ("emendate/chart.none", laid_emendate_chart_none)], narrowed := true }
def TopGreatestPotentialUptoSaid : Prop := topGreatestPotentialUptoRow.holds Tryz.pinned (OpenSpec.upto topGreatestPotentialSpec)

end Rows
end Go.Proofs.YtibdcnmaodmghaaGreatDoor
