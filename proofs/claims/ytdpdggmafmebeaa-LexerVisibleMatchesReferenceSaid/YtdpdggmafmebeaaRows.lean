/-
  No cell of these rows narrows 'for every input' (looked for: loops, veiled, ifaces, maps, wideKeys, modest, calm, conditions, laid).
  DERIVED. THE GIVEN ROWS OF THIS SEAT. 7 by the template 'for every input the law returns true; each argument reads behind the call as it read before'; 0 by the template 'total and deterministic' (their statements: YtdpdggmafmebeaaTotals.lean).
  GIVEN WITH THE SEED: the statements are not yours to turn. If you find one false, say at which input.
  Laid BY PROGRAM, IN A SANDBOX (cutbox-rows.mjs): the forced cells as the released guide's own fill.sh prints them over the translation 44de676ee5ac0235… (all of the seat's roots in one cut). By AI agents, Wed Nov 11 2026. No macro, syntax, notation, axiom, sorry.
-/
import Derived.Test.YtdpdggmafmebeaaChecked
import GoSem.Claim
import GoSem.ClaimJoined
import GoSem.ClaimMapViews
import Derived.JoinedTies
import Derived.KernelRfl
namespace Go.Proofs.Ytdpdggmafmebeaa
/- THE CELL 'sum', in the pinned program and in every row, IS THE sha256 OF THE DUMP (.gsa) THAT YtdpdggmafmebeaaProg.lean LOADS. Nothing in Lean hashes anything: it is a label: what it is worth is what the hold of that sum in a sandbox is worth. -/
noncomputable def Try.pinned : Pinned := { name := "ytdpdggmafmebeaa", sum := "44de676ee5ac02358d14e69a1b68fb5c9d3514ed743bd6277be706640c056bd4", checked := Try.checked }
namespace Rows
def none {H : Type} : Left H := { results := [], args := [] }

/-- 'emendatelaw12.LexerLexMatchesReference': WHATEVER THE INPUT: true; the input reads as it did. -/
def lexerLexMatchesReferenceSpec : ChangeSpec := { name := "lexerLexMatchesReference", fn := fun _ => fun
  | [d1, d2] => { results := [.lit (.bool true)], args := [d1, d2] }
  | _ => none }
def lexerLexMatchesReferenceRow : OpenClaim := { program := "ytdpdggmafmebeaa", sum := "44de676ee5ac02358d14e69a1b68fb5c9d3514ed743bd6277be706640c056bd4", func := "emendate/emendatelaw12.LexerLexMatchesReference", spec := "lexerLexMatchesReference", unfollowed := true, recurses := true, apart := false }
def LexerLexMatchesReferenceSaid : Prop := lexerLexMatchesReferenceRow.holds Try.pinned (OpenSpec.ofChange lexerLexMatchesReferenceSpec)

/-- ITS FALSE NEIGHBOUR: 'it returns false'. Refute it at one input. -/
def lexerLexMatchesReferenceWrong : ChangeSpec := { name := "lexerLexMatchesReference", fn := fun _ => fun
  | [d1, d2] => { results := [.lit (.bool false)], args := [d1, d2] }
  | _ => none }
def LexerLexMatchesReferenceWrongFalsely : Prop := lexerLexMatchesReferenceRow.holds Try.pinned (OpenSpec.ofChange lexerLexMatchesReferenceWrong)

/-- 'emendatelaw12.LexerCoversText': WHATEVER THE INPUT: true; the input reads as it did. -/
def lexerCoversTextSpec : ChangeSpec := { name := "lexerCoversText", fn := fun _ => fun
  | [d1, d2] => { results := [.lit (.bool true)], args := [d1, d2] }
  | _ => none }
def lexerCoversTextRow : OpenClaim := { program := "ytdpdggmafmebeaa", sum := "44de676ee5ac02358d14e69a1b68fb5c9d3514ed743bd6277be706640c056bd4", func := "emendate/emendatelaw12.LexerCoversText", spec := "lexerCoversText", unfollowed := true, recurses := true, apart := false }
def LexerCoversTextSaid : Prop := lexerCoversTextRow.holds Try.pinned (OpenSpec.ofChange lexerCoversTextSpec)

/-- ITS FALSE NEIGHBOUR: 'it returns false'. Refute it at one input. -/
def lexerCoversTextWrong : ChangeSpec := { name := "lexerCoversText", fn := fun _ => fun
  | [d1, d2] => { results := [.lit (.bool false)], args := [d1, d2] }
  | _ => none }
def LexerCoversTextWrongFalsely : Prop := lexerCoversTextRow.holds Try.pinned (OpenSpec.ofChange lexerCoversTextWrong)

/-- 'emendatelaw12.LexerMaximalMunch': WHATEVER THE INPUT: true; the input reads as it did. -/
def lexerMaximalMunchSpec : ChangeSpec := { name := "lexerMaximalMunch", fn := fun _ => fun
  | [d1, d2] => { results := [.lit (.bool true)], args := [d1, d2] }
  | _ => none }
def lexerMaximalMunchRow : OpenClaim := { program := "ytdpdggmafmebeaa", sum := "44de676ee5ac02358d14e69a1b68fb5c9d3514ed743bd6277be706640c056bd4", func := "emendate/emendatelaw12.LexerMaximalMunch", spec := "lexerMaximalMunch", unfollowed := true, recurses := true, apart := false }
def LexerMaximalMunchSaid : Prop := lexerMaximalMunchRow.holds Try.pinned (OpenSpec.ofChange lexerMaximalMunchSpec)

/-- ITS FALSE NEIGHBOUR: 'it returns false'. Refute it at one input. -/
def lexerMaximalMunchWrong : ChangeSpec := { name := "lexerMaximalMunch", fn := fun _ => fun
  | [d1, d2] => { results := [.lit (.bool false)], args := [d1, d2] }
  | _ => none }
def LexerMaximalMunchWrongFalsely : Prop := lexerMaximalMunchRow.holds Try.pinned (OpenSpec.ofChange lexerMaximalMunchWrong)

/-- 'emendatelaw12.LexerLocality': WHATEVER THE INPUT: true; the input reads as it did. -/
def lexerLocalitySpec : ChangeSpec := { name := "lexerLocality", fn := fun _ => fun
  | [d1, d2, d3] => { results := [.lit (.bool true)], args := [d1, d2, d3] }
  | _ => none }
def lexerLocalityRow : OpenClaim := { program := "ytdpdggmafmebeaa", sum := "44de676ee5ac02358d14e69a1b68fb5c9d3514ed743bd6277be706640c056bd4", func := "emendate/emendatelaw12.LexerLocality", spec := "lexerLocality", unfollowed := true, recurses := true, apart := false }
def LexerLocalitySaid : Prop := lexerLocalityRow.holds Try.pinned (OpenSpec.ofChange lexerLocalitySpec)

/-- ITS FALSE NEIGHBOUR: 'it returns false'. Refute it at one input. -/
def lexerLocalityWrong : ChangeSpec := { name := "lexerLocality", fn := fun _ => fun
  | [d1, d2, d3] => { results := [.lit (.bool false)], args := [d1, d2, d3] }
  | _ => none }
def LexerLocalityWrongFalsely : Prop := lexerLocalityRow.holds Try.pinned (OpenSpec.ofChange lexerLocalityWrong)

/-- 'emendatelaw12.LexerRestarts': WHATEVER THE INPUT: true; the input reads as it did. -/
def lexerRestartsSpec : ChangeSpec := { name := "lexerRestarts", fn := fun _ => fun
  | [d1, d2, d3] => { results := [.lit (.bool true)], args := [d1, d2, d3] }
  | _ => none }
def lexerRestartsRow : OpenClaim := { program := "ytdpdggmafmebeaa", sum := "44de676ee5ac02358d14e69a1b68fb5c9d3514ed743bd6277be706640c056bd4", func := "emendate/emendatelaw12.LexerRestarts", spec := "lexerRestarts", unfollowed := true, recurses := true, apart := false }
def LexerRestartsSaid : Prop := lexerRestartsRow.holds Try.pinned (OpenSpec.ofChange lexerRestartsSpec)

/-- ITS FALSE NEIGHBOUR: 'it returns false'. Refute it at one input. -/
def lexerRestartsWrong : ChangeSpec := { name := "lexerRestarts", fn := fun _ => fun
  | [d1, d2, d3] => { results := [.lit (.bool false)], args := [d1, d2, d3] }
  | _ => none }
def LexerRestartsWrongFalsely : Prop := lexerRestartsRow.holds Try.pinned (OpenSpec.ofChange lexerRestartsWrong)

/-- 'emendatelaw12.LexerAppend': WHATEVER THE INPUT: true; the input reads as it did. -/
def lexerAppendSpec : ChangeSpec := { name := "lexerAppend", fn := fun _ => fun
  | [d1, d2, d3] => { results := [.lit (.bool true)], args := [d1, d2, d3] }
  | _ => none }
def lexerAppendRow : OpenClaim := { program := "ytdpdggmafmebeaa", sum := "44de676ee5ac02358d14e69a1b68fb5c9d3514ed743bd6277be706640c056bd4", func := "emendate/emendatelaw12.LexerAppend", spec := "lexerAppend", unfollowed := true, recurses := true, apart := false }
def LexerAppendSaid : Prop := lexerAppendRow.holds Try.pinned (OpenSpec.ofChange lexerAppendSpec)

/-- ITS FALSE NEIGHBOUR: 'it returns false'. Refute it at one input. -/
def lexerAppendWrong : ChangeSpec := { name := "lexerAppend", fn := fun _ => fun
  | [d1, d2, d3] => { results := [.lit (.bool false)], args := [d1, d2, d3] }
  | _ => none }
def LexerAppendWrongFalsely : Prop := lexerAppendRow.holds Try.pinned (OpenSpec.ofChange lexerAppendWrong)

/-- 'emendatelaw12.LexerVisibleMatchesReference': WHATEVER THE INPUT: true; the input reads as it did. -/
def lexerVisibleMatchesReferenceSpec : ChangeSpec := { name := "lexerVisibleMatchesReference", fn := fun _ => fun
  | [d1, d2] => { results := [.lit (.bool true)], args := [d1, d2] }
  | _ => none }
def lexerVisibleMatchesReferenceRow : OpenClaim := { program := "ytdpdggmafmebeaa", sum := "44de676ee5ac02358d14e69a1b68fb5c9d3514ed743bd6277be706640c056bd4", func := "emendate/emendatelaw12.LexerVisibleMatchesReference", spec := "lexerVisibleMatchesReference", unfollowed := true, recurses := true, apart := false }
def LexerVisibleMatchesReferenceSaid : Prop := lexerVisibleMatchesReferenceRow.holds Try.pinned (OpenSpec.ofChange lexerVisibleMatchesReferenceSpec)

/-- ITS FALSE NEIGHBOUR: 'it returns false'. Refute it at one input. -/
def lexerVisibleMatchesReferenceWrong : ChangeSpec := { name := "lexerVisibleMatchesReference", fn := fun _ => fun
  | [d1, d2] => { results := [.lit (.bool false)], args := [d1, d2] }
  | _ => none }
def LexerVisibleMatchesReferenceWrongFalsely : Prop := lexerVisibleMatchesReferenceRow.holds Try.pinned (OpenSpec.ofChange lexerVisibleMatchesReferenceWrong)

/- THE SECOND FORM. 'bulk': how many values and letters a reading holds, each counted each time it is reached (what is shared counts as often as it is met; a slice's spare places count too). A statement '..UptoSaid' is the law's where the arguments, and the package variables that the reading takes, are together of bulk at most 1048576: NARROWER than '..Said'. Prove '..Said' where nothing that the law and all that it calls make is longer than what came in: it says more and counts as full. Else prove '..UptoSaid'. A law counts once. -/
mutual
def uptoBulk {H : Type} : DataW H → Nat
  | .lit (.string bytes) => bytes.length + 1
  | .lit _ => 1
  | .nil => 1
  | .ptr d => uptoBulk d + 1
  | .slice elems spare => uptoBulkAll elems + uptoBulkAll spare + 1
  | .agg parts => uptoBulkAll parts + 1
  | .iface _ d => uptoBulk d + 1
  | .map entries => uptoBulkEntries entries + 1
  | .held _ => 1
def uptoBulkAll {H : Type} : List (DataW H) → Nat
  | [] => 0
  | d :: r => uptoBulk d + uptoBulkAll r
def uptoBulkEntries {H : Type} : List (Lit × DataW H) → Nat
  | [] => 0
  | x :: r => uptoBulkEntry x + uptoBulkEntries r
def uptoBulkEntry {H : Type} : Lit × DataW H → Nat
  | (.string bytes, d) => bytes.length + uptoBulk d + 1
  | (_, d) => uptoBulk d + 1
 end
def uptoSmall : (H : Type) → List (DataW H) → Bool := fun _ ds => decide (uptoBulkAll ds ≤ 1048576)
def OpenSpec.upto (s : _root_.Go.ChangeSpec) : _root_.Go.OpenSpec := { _root_.Go.OpenSpec.ofChange s with cond := some uptoSmall }

/-- 'emendatelaw12.LexerLexMatchesReference', WHERE WHAT IT READS IS OF BULK AT MOST 1048576: true; the input reads as it did. -/
def lexerLexMatchesReferenceUptoRow : OpenClaim := { program := "ytdpdggmafmebeaa", sum := "44de676ee5ac02358d14e69a1b68fb5c9d3514ed743bd6277be706640c056bd4", func := "emendate/emendatelaw12.LexerLexMatchesReference", spec := "lexerLexMatchesReference", unfollowed := true, recurses := true, apart := false, narrowed := true }
def LexerLexMatchesReferenceUptoSaid : Prop := lexerLexMatchesReferenceUptoRow.holds Try.pinned (OpenSpec.upto lexerLexMatchesReferenceSpec)

/-- 'emendatelaw12.LexerCoversText', WHERE WHAT IT READS IS OF BULK AT MOST 1048576: true; the input reads as it did. -/
def lexerCoversTextUptoRow : OpenClaim := { program := "ytdpdggmafmebeaa", sum := "44de676ee5ac02358d14e69a1b68fb5c9d3514ed743bd6277be706640c056bd4", func := "emendate/emendatelaw12.LexerCoversText", spec := "lexerCoversText", unfollowed := true, recurses := true, apart := false, narrowed := true }
def LexerCoversTextUptoSaid : Prop := lexerCoversTextUptoRow.holds Try.pinned (OpenSpec.upto lexerCoversTextSpec)

/-- 'emendatelaw12.LexerMaximalMunch', WHERE WHAT IT READS IS OF BULK AT MOST 1048576: true; the input reads as it did. -/
def lexerMaximalMunchUptoRow : OpenClaim := { program := "ytdpdggmafmebeaa", sum := "44de676ee5ac02358d14e69a1b68fb5c9d3514ed743bd6277be706640c056bd4", func := "emendate/emendatelaw12.LexerMaximalMunch", spec := "lexerMaximalMunch", unfollowed := true, recurses := true, apart := false, narrowed := true }
def LexerMaximalMunchUptoSaid : Prop := lexerMaximalMunchUptoRow.holds Try.pinned (OpenSpec.upto lexerMaximalMunchSpec)

/-- 'emendatelaw12.LexerLocality', WHERE WHAT IT READS IS OF BULK AT MOST 1048576: true; the input reads as it did. -/
def lexerLocalityUptoRow : OpenClaim := { program := "ytdpdggmafmebeaa", sum := "44de676ee5ac02358d14e69a1b68fb5c9d3514ed743bd6277be706640c056bd4", func := "emendate/emendatelaw12.LexerLocality", spec := "lexerLocality", unfollowed := true, recurses := true, apart := false, narrowed := true }
def LexerLocalityUptoSaid : Prop := lexerLocalityUptoRow.holds Try.pinned (OpenSpec.upto lexerLocalitySpec)

/-- 'emendatelaw12.LexerRestarts', WHERE WHAT IT READS IS OF BULK AT MOST 1048576: true; the input reads as it did. -/
def lexerRestartsUptoRow : OpenClaim := { program := "ytdpdggmafmebeaa", sum := "44de676ee5ac02358d14e69a1b68fb5c9d3514ed743bd6277be706640c056bd4", func := "emendate/emendatelaw12.LexerRestarts", spec := "lexerRestarts", unfollowed := true, recurses := true, apart := false, narrowed := true }
def LexerRestartsUptoSaid : Prop := lexerRestartsUptoRow.holds Try.pinned (OpenSpec.upto lexerRestartsSpec)

/-- 'emendatelaw12.LexerAppend', WHERE WHAT IT READS IS OF BULK AT MOST 1048576: true; the input reads as it did. -/
def lexerAppendUptoRow : OpenClaim := { program := "ytdpdggmafmebeaa", sum := "44de676ee5ac02358d14e69a1b68fb5c9d3514ed743bd6277be706640c056bd4", func := "emendate/emendatelaw12.LexerAppend", spec := "lexerAppend", unfollowed := true, recurses := true, apart := false, narrowed := true }
def LexerAppendUptoSaid : Prop := lexerAppendUptoRow.holds Try.pinned (OpenSpec.upto lexerAppendSpec)

/-- 'emendatelaw12.LexerVisibleMatchesReference', WHERE WHAT IT READS IS OF BULK AT MOST 1048576: true; the input reads as it did. -/
def lexerVisibleMatchesReferenceUptoRow : OpenClaim := { program := "ytdpdggmafmebeaa", sum := "44de676ee5ac02358d14e69a1b68fb5c9d3514ed743bd6277be706640c056bd4", func := "emendate/emendatelaw12.LexerVisibleMatchesReference", spec := "lexerVisibleMatchesReference", unfollowed := true, recurses := true, apart := false, narrowed := true }
def LexerVisibleMatchesReferenceUptoSaid : Prop := lexerVisibleMatchesReferenceUptoRow.holds Try.pinned (OpenSpec.upto lexerVisibleMatchesReferenceSpec)

end Rows
end Go.Proofs.Ytdpdggmafmebeaa
