/-
  No cell of these rows narrows 'for every input' (looked for: loops, veiled, ifaces, maps, wideKeys, modest, calm, conditions, laid).
  DERIVED. THE GIVEN ROWS OF THIS SEAT. 6 by the template 'for every input the law returns true; each argument reads behind the call as it read before'; 0 by the template 'total and deterministic' (their statements: YthpdfgfefmoaaaaTotals.lean).
  GIVEN WITH THE SEED: the statements are not yours to turn. If you find one false, say at which input.
  Laid BY PROGRAM, IN A SANDBOX (cutbox-rows.mjs): the forced cells as the released guide's own fill.sh prints them over the translation c33924ac7c780db3… (all of the seat's roots in one cut). By AI agents, Wed Nov 11 2026. No macro, syntax, notation, axiom, sorry.
-/
import Derived.Test.YthpdfgfefmoaaaaChecked
import GoSem.Claim
import GoSem.ClaimJoined
import GoSem.ClaimMapViews
import Derived.JoinedTies
import Derived.KernelRfl
namespace Go.Proofs.Ythpdfgfefmoaaaa
/- THE CELL 'sum', in the pinned program and in every row, IS THE sha256 OF THE DUMP (.gsa) THAT YthpdfgfefmoaaaaProg.lean LOADS. Nothing in Lean hashes anything: it is a label: what it is worth is what the hold of that sum in a sandbox is worth. -/
noncomputable def Try.pinned : Pinned := { name := "ythpdfgfefmoaaaa", sum := "c33924ac7c780db3173fa8c893d7276316e865fd11e2236d49ff93532ef74367", checked := Try.checked }
namespace Rows
def none {H : Type} : Left H := { results := [], args := [] }

/-- 'emendatelaw13.RelexUpdate': WHATEVER THE INPUT: true; the input reads as it did. -/
def relexUpdateSpec : ChangeSpec := { name := "relexUpdate", fn := fun _ => fun
  | [d] => { results := [.lit (.bool true)], args := [d] }
  | _ => none }
def relexUpdateRow : OpenClaim := { program := "ythpdfgfefmoaaaa", sum := "c33924ac7c780db3173fa8c893d7276316e865fd11e2236d49ff93532ef74367", func := "emendate/emendatelaw13.RelexUpdate", spec := "relexUpdate", unfollowed := true, recurses := true, apart := false }
def RelexUpdateSaid : Prop := relexUpdateRow.holds Try.pinned (OpenSpec.ofChange relexUpdateSpec)

/-- ITS FALSE NEIGHBOUR: 'it returns false'. Refute it at one input. -/
def relexUpdateWrong : ChangeSpec := { name := "relexUpdate", fn := fun _ => fun
  | [d] => { results := [.lit (.bool false)], args := [d] }
  | _ => none }
def RelexUpdateWrongFalsely : Prop := relexUpdateRow.holds Try.pinned (OpenSpec.ofChange relexUpdateWrong)

/-- 'emendatelaw13.RelexEqualsLex': WHATEVER THE INPUT: true; the input reads as it did. -/
def relexEqualsLexSpec : ChangeSpec := { name := "relexEqualsLex", fn := fun _ => fun
  | [d1, d2, d3] => { results := [.lit (.bool true)], args := [d1, d2, d3] }
  | _ => none }
def relexEqualsLexRow : OpenClaim := { program := "ythpdfgfefmoaaaa", sum := "c33924ac7c780db3173fa8c893d7276316e865fd11e2236d49ff93532ef74367", func := "emendate/emendatelaw13.RelexEqualsLex", spec := "relexEqualsLex", unfollowed := true, recurses := true, apart := false }
def RelexEqualsLexSaid : Prop := relexEqualsLexRow.holds Try.pinned (OpenSpec.ofChange relexEqualsLexSpec)

/-- ITS FALSE NEIGHBOUR: 'it returns false'. Refute it at one input. -/
def relexEqualsLexWrong : ChangeSpec := { name := "relexEqualsLex", fn := fun _ => fun
  | [d1, d2, d3] => { results := [.lit (.bool false)], args := [d1, d2, d3] }
  | _ => none }
def RelexEqualsLexWrongFalsely : Prop := relexEqualsLexRow.holds Try.pinned (OpenSpec.ofChange relexEqualsLexWrong)

/-- 'emendatelaw13.RelexRetains': WHATEVER THE INPUT: true; the input reads as it did. -/
def relexRetainsSpec : ChangeSpec := { name := "relexRetains", fn := fun _ => fun
  | [d] => { results := [.lit (.bool true)], args := [d] }
  | _ => none }
def relexRetainsRow : OpenClaim := { program := "ythpdfgfefmoaaaa", sum := "c33924ac7c780db3173fa8c893d7276316e865fd11e2236d49ff93532ef74367", func := "emendate/emendatelaw13.RelexRetains", spec := "relexRetains", unfollowed := true, recurses := true, apart := false }
def RelexRetainsSaid : Prop := relexRetainsRow.holds Try.pinned (OpenSpec.ofChange relexRetainsSpec)

/-- ITS FALSE NEIGHBOUR: 'it returns false'. Refute it at one input. -/
def relexRetainsWrong : ChangeSpec := { name := "relexRetains", fn := fun _ => fun
  | [d] => { results := [.lit (.bool false)], args := [d] }
  | _ => none }
def RelexRetainsWrongFalsely : Prop := relexRetainsRow.holds Try.pinned (OpenSpec.ofChange relexRetainsWrong)

/-- 'emendatelaw13.RelexPrefix': WHATEVER THE INPUT: true; the input reads as it did. -/
def relexPrefixSpec : ChangeSpec := { name := "relexPrefix", fn := fun _ => fun
  | [d] => { results := [.lit (.bool true)], args := [d] }
  | _ => none }
def relexPrefixRow : OpenClaim := { program := "ythpdfgfefmoaaaa", sum := "c33924ac7c780db3173fa8c893d7276316e865fd11e2236d49ff93532ef74367", func := "emendate/emendatelaw13.RelexPrefix", spec := "relexPrefix", unfollowed := true, recurses := true, apart := false }
def RelexPrefixSaid : Prop := relexPrefixRow.holds Try.pinned (OpenSpec.ofChange relexPrefixSpec)

/-- ITS FALSE NEIGHBOUR: 'it returns false'. Refute it at one input. -/
def relexPrefixWrong : ChangeSpec := { name := "relexPrefix", fn := fun _ => fun
  | [d] => { results := [.lit (.bool false)], args := [d] }
  | _ => none }
def RelexPrefixWrongFalsely : Prop := relexPrefixRow.holds Try.pinned (OpenSpec.ofChange relexPrefixWrong)

/-- 'emendatelaw13.RelexNothing': WHATEVER THE INPUT: true; the input reads as it did. -/
def relexNothingSpec : ChangeSpec := { name := "relexNothing", fn := fun _ => fun
  | [d1, d2, d3] => { results := [.lit (.bool true)], args := [d1, d2, d3] }
  | _ => none }
def relexNothingRow : OpenClaim := { program := "ythpdfgfefmoaaaa", sum := "c33924ac7c780db3173fa8c893d7276316e865fd11e2236d49ff93532ef74367", func := "emendate/emendatelaw13.RelexNothing", spec := "relexNothing", unfollowed := true, recurses := true, apart := false }
def RelexNothingSaid : Prop := relexNothingRow.holds Try.pinned (OpenSpec.ofChange relexNothingSpec)

/-- ITS FALSE NEIGHBOUR: 'it returns false'. Refute it at one input. -/
def relexNothingWrong : ChangeSpec := { name := "relexNothing", fn := fun _ => fun
  | [d1, d2, d3] => { results := [.lit (.bool false)], args := [d1, d2, d3] }
  | _ => none }
def RelexNothingWrongFalsely : Prop := relexNothingRow.holds Try.pinned (OpenSpec.ofChange relexNothingWrong)

/-- 'emendatelaw13.RelexUndone': WHATEVER THE INPUT: true; the input reads as it did. -/
def relexUndoneSpec : ChangeSpec := { name := "relexUndone", fn := fun _ => fun
  | [d] => { results := [.lit (.bool true)], args := [d] }
  | _ => none }
def relexUndoneRow : OpenClaim := { program := "ythpdfgfefmoaaaa", sum := "c33924ac7c780db3173fa8c893d7276316e865fd11e2236d49ff93532ef74367", func := "emendate/emendatelaw13.RelexUndone", spec := "relexUndone", unfollowed := true, recurses := true, apart := false }
def RelexUndoneSaid : Prop := relexUndoneRow.holds Try.pinned (OpenSpec.ofChange relexUndoneSpec)

/-- ITS FALSE NEIGHBOUR: 'it returns false'. Refute it at one input. -/
def relexUndoneWrong : ChangeSpec := { name := "relexUndone", fn := fun _ => fun
  | [d] => { results := [.lit (.bool false)], args := [d] }
  | _ => none }
def RelexUndoneWrongFalsely : Prop := relexUndoneRow.holds Try.pinned (OpenSpec.ofChange relexUndoneWrong)

/- THE SECOND FORM. 'bulk': how many values and letters a reading holds, each counted each time it is reached (what is shared counts as often as it is met; a slice's spare places count too). A statement '..UptoSaid' is the law's where the arguments, and the package variables that the reading takes, are together of bulk at most 1048576: NARROWER than '..Said'. Prove '..Said' where nothing that the law and all that it calls make is longer than what came in: it says more and counts as full. Else prove '..UptoSaid'. A law counts once. -/
mutual
def uptoBulk {H : Type} : DataW H → Nat
  | .lit (.string bytes) => bytes.length + 1
  | .lit _ => 1
  | .nil => 1
  | .ptr d => uptoBulk d + 1
  | .slice elems spare => uptoBulkAll elems + uptoBulkAll spare + 1
  | .agg parts => uptoBulkAll parts + 1
  | .iface _ d => uptoBulk d + 1
  | .map entries => uptoBulkEntries entries + 1
  | .held _ => 1
def uptoBulkAll {H : Type} : List (DataW H) → Nat
  | [] => 0
  | d :: r => uptoBulk d + uptoBulkAll r
def uptoBulkEntries {H : Type} : List (Lit × DataW H) → Nat
  | [] => 0
  | x :: r => uptoBulkEntry x + uptoBulkEntries r
def uptoBulkEntry {H : Type} : Lit × DataW H → Nat
  | (.string bytes, d) => bytes.length + uptoBulk d + 1
  | (_, d) => uptoBulk d + 1
 end
def uptoSmall : (H : Type) → List (DataW H) → Bool := fun _ ds => decide (uptoBulkAll ds ≤ 1048576)
def OpenSpec.upto (s : _root_.Go.ChangeSpec) : _root_.Go.OpenSpec := { _root_.Go.OpenSpec.ofChange s with cond := some uptoSmall }

/-- 'emendatelaw13.RelexUpdate', WHERE WHAT IT READS IS OF BULK AT MOST 1048576: true; the input reads as it did. -/
def relexUpdateUptoRow : OpenClaim := { program := "ythpdfgfefmoaaaa", sum := "c33924ac7c780db3173fa8c893d7276316e865fd11e2236d49ff93532ef74367", func := "emendate/emendatelaw13.RelexUpdate", spec := "relexUpdate", unfollowed := true, recurses := true, apart := false, narrowed := true }
def RelexUpdateUptoSaid : Prop := relexUpdateUptoRow.holds Try.pinned (OpenSpec.upto relexUpdateSpec)

/-- 'emendatelaw13.RelexEqualsLex', WHERE WHAT IT READS IS OF BULK AT MOST 1048576: true; the input reads as it did. -/
def relexEqualsLexUptoRow : OpenClaim := { program := "ythpdfgfefmoaaaa", sum := "c33924ac7c780db3173fa8c893d7276316e865fd11e2236d49ff93532ef74367", func := "emendate/emendatelaw13.RelexEqualsLex", spec := "relexEqualsLex", unfollowed := true, recurses := true, apart := false, narrowed := true }
def RelexEqualsLexUptoSaid : Prop := relexEqualsLexUptoRow.holds Try.pinned (OpenSpec.upto relexEqualsLexSpec)

/-- 'emendatelaw13.RelexRetains', WHERE WHAT IT READS IS OF BULK AT MOST 1048576: true; the input reads as it did. -/
def relexRetainsUptoRow : OpenClaim := { program := "ythpdfgfefmoaaaa", sum := "c33924ac7c780db3173fa8c893d7276316e865fd11e2236d49ff93532ef74367", func := "emendate/emendatelaw13.RelexRetains", spec := "relexRetains", unfollowed := true, recurses := true, apart := false, narrowed := true }
def RelexRetainsUptoSaid : Prop := relexRetainsUptoRow.holds Try.pinned (OpenSpec.upto relexRetainsSpec)

/-- 'emendatelaw13.RelexPrefix', WHERE WHAT IT READS IS OF BULK AT MOST 1048576: true; the input reads as it did. -/
def relexPrefixUptoRow : OpenClaim := { program := "ythpdfgfefmoaaaa", sum := "c33924ac7c780db3173fa8c893d7276316e865fd11e2236d49ff93532ef74367", func := "emendate/emendatelaw13.RelexPrefix", spec := "relexPrefix", unfollowed := true, recurses := true, apart := false, narrowed := true }
def RelexPrefixUptoSaid : Prop := relexPrefixUptoRow.holds Try.pinned (OpenSpec.upto relexPrefixSpec)

/-- 'emendatelaw13.RelexNothing', WHERE WHAT IT READS IS OF BULK AT MOST 1048576: true; the input reads as it did. -/
def relexNothingUptoRow : OpenClaim := { program := "ythpdfgfefmoaaaa", sum := "c33924ac7c780db3173fa8c893d7276316e865fd11e2236d49ff93532ef74367", func := "emendate/emendatelaw13.RelexNothing", spec := "relexNothing", unfollowed := true, recurses := true, apart := false, narrowed := true }
def RelexNothingUptoSaid : Prop := relexNothingUptoRow.holds Try.pinned (OpenSpec.upto relexNothingSpec)

/-- 'emendatelaw13.RelexUndone', WHERE WHAT IT READS IS OF BULK AT MOST 1048576: true; the input reads as it did. -/
def relexUndoneUptoRow : OpenClaim := { program := "ythpdfgfefmoaaaa", sum := "c33924ac7c780db3173fa8c893d7276316e865fd11e2236d49ff93532ef74367", func := "emendate/emendatelaw13.RelexUndone", spec := "relexUndone", unfollowed := true, recurses := true, apart := false, narrowed := true }
def RelexUndoneUptoSaid : Prop := relexUndoneUptoRow.holds Try.pinned (OpenSpec.upto relexUndoneSpec)

end Rows
end Go.Proofs.Ythpdfgfefmoaaaa
