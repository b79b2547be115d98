/-
  NARROWER THAN 'FOR EVERY INPUT', by the rows' own cells (each row's printed sentence says how): OutsideThroughIsLowerBound: loops.
  DERIVED. THE GIVEN ROWS OF THIS SEAT. 7 by the template 'for every input the law returns true; each argument reads behind the call as it read before'; 0 by the template 'total and deterministic' (their statements: YtbalhkbpmahkgaaTotals.lean).
  GIVEN WITH THE SEED: the statements are not yours to turn. If you find one false, say at which input.
  Laid BY PROGRAM, IN A SANDBOX (cutbox-rows.mjs): the forced cells as the released guide's own fill.sh prints them over the translation 3776518910028bdf… (all of the seat's roots in one cut). By AI agents, Wed Nov 11 2026. No macro, syntax, notation, axiom, sorry.
-/
import Derived.Test.YtbalhkbpmahkgaaChecked
import GoSem.Claim
import GoSem.ClaimJoined
import GoSem.ClaimMapViews
import Derived.JoinedTies
import Derived.KernelRfl
namespace Go.Proofs.Ytbalhkbpmahkgaa
/- THE CELL 'sum', in the pinned program and in every row, IS THE sha256 OF THE DUMP (.gsa) THAT YtbalhkbpmahkgaaProg.lean LOADS. Nothing in Lean hashes anything: it is a label: what it is worth is what the hold of that sum in a sandbox is worth. -/
noncomputable def Try.pinned : Pinned := { name := "ytbalhkbpmahkgaa", sum := "3776518910028bdfa53817d4b64f1538156fd4c0df97e2e6c3f9c0ae683e8f87", checked := Try.checked }
namespace Rows
def none {H : Type} : Left H := { results := [], args := [] }

/-- 'emendatelaw33.OutsideMatchesReference': WHATEVER THE INPUT: true; the input reads as it did. -/
def outsideMatchesReferenceSpec : ChangeSpec := { name := "outsideMatchesReference", fn := fun _ => fun
  | [d1, d2] => { results := [.lit (.bool true)], args := [d1, d2] }
  | _ => none }
def outsideMatchesReferenceRow : OpenClaim := { program := "ytbalhkbpmahkgaa", sum := "3776518910028bdfa53817d4b64f1538156fd4c0df97e2e6c3f9c0ae683e8f87", func := "emendate/emendatelaw33.OutsideMatchesReference", spec := "outsideMatchesReference", unfollowed := true, recurses := true, apart := false }
def OutsideMatchesReferenceSaid : Prop := outsideMatchesReferenceRow.holds Try.pinned (OpenSpec.ofChange outsideMatchesReferenceSpec)

/-- ITS FALSE NEIGHBOUR: 'it returns false'. Refute it at one input. -/
def outsideMatchesReferenceWrong : ChangeSpec := { name := "outsideMatchesReference", fn := fun _ => fun
  | [d1, d2] => { results := [.lit (.bool false)], args := [d1, d2] }
  | _ => none }
def OutsideMatchesReferenceWrongFalsely : Prop := outsideMatchesReferenceRow.holds Try.pinned (OpenSpec.ofChange outsideMatchesReferenceWrong)

/-- 'emendatelaw33.OutsideThroughMatchesReference': WHATEVER THE INPUT: true; the input reads as it did. -/
def outsideThroughMatchesReferenceSpec : ChangeSpec := { name := "outsideThroughMatchesReference", fn := fun _ => fun
  | [d1, d2] => { results := [.lit (.bool true)], args := [d1, d2] }
  | _ => none }
def outsideThroughMatchesReferenceRow : OpenClaim := { program := "ytbalhkbpmahkgaa", sum := "3776518910028bdfa53817d4b64f1538156fd4c0df97e2e6c3f9c0ae683e8f87", func := "emendate/emendatelaw33.OutsideThroughMatchesReference", spec := "outsideThroughMatchesReference", unfollowed := true, recurses := true, apart := false }
def OutsideThroughMatchesReferenceSaid : Prop := outsideThroughMatchesReferenceRow.holds Try.pinned (OpenSpec.ofChange outsideThroughMatchesReferenceSpec)

/-- ITS FALSE NEIGHBOUR: 'it returns false'. Refute it at one input. -/
def outsideThroughMatchesReferenceWrong : ChangeSpec := { name := "outsideThroughMatchesReference", fn := fun _ => fun
  | [d1, d2] => { results := [.lit (.bool false)], args := [d1, d2] }
  | _ => none }
def OutsideThroughMatchesReferenceWrongFalsely : Prop := outsideThroughMatchesReferenceRow.holds Try.pinned (OpenSpec.ofChange outsideThroughMatchesReferenceWrong)

/-- 'emendatelaw33.OutsideThroughIsLowerBound': WHATEVER THE INPUT: true; the input reads as it did. -/
def outsideThroughIsLowerBoundSpec : ChangeSpec := { name := "outsideThroughIsLowerBound", fn := fun _ => fun
  | [d1, d2, d3] => { results := [.lit (.bool true)], args := [d1, d2, d3] }
  | _ => none }
def outsideThroughIsLowerBoundRow : OpenClaim := { program := "ytbalhkbpmahkgaa", sum := "3776518910028bdfa53817d4b64f1538156fd4c0df97e2e6c3f9c0ae683e8f87", func := "emendate/emendatelaw33.OutsideThroughIsLowerBound", spec := "outsideThroughIsLowerBound", unfollowed := true, recurses := true, loops := true, apart := false }
def OutsideThroughIsLowerBoundSaid : Prop := outsideThroughIsLowerBoundRow.holds Try.pinned (OpenSpec.ofChange outsideThroughIsLowerBoundSpec)

/-- ITS FALSE NEIGHBOUR: 'it returns false'. Refute it at one input. -/
def outsideThroughIsLowerBoundWrong : ChangeSpec := { name := "outsideThroughIsLowerBound", fn := fun _ => fun
  | [d1, d2, d3] => { results := [.lit (.bool false)], args := [d1, d2, d3] }
  | _ => none }
def OutsideThroughIsLowerBoundWrongFalsely : Prop := outsideThroughIsLowerBoundRow.holds Try.pinned (OpenSpec.ofChange outsideThroughIsLowerBoundWrong)

/-- 'emendatelaw33.OutsideThroughIsAttained': WHATEVER THE INPUT: true; the input reads as it did. -/
def outsideThroughIsAttainedSpec : ChangeSpec := { name := "outsideThroughIsAttained", fn := fun _ => fun
  | [d1, d2] => { results := [.lit (.bool true)], args := [d1, d2] }
  | _ => none }
def outsideThroughIsAttainedRow : OpenClaim := { program := "ytbalhkbpmahkgaa", sum := "3776518910028bdfa53817d4b64f1538156fd4c0df97e2e6c3f9c0ae683e8f87", func := "emendate/emendatelaw33.OutsideThroughIsAttained", spec := "outsideThroughIsAttained", unfollowed := true, recurses := true, apart := false }
def OutsideThroughIsAttainedSaid : Prop := outsideThroughIsAttainedRow.holds Try.pinned (OpenSpec.ofChange outsideThroughIsAttainedSpec)

/-- ITS FALSE NEIGHBOUR: 'it returns false'. Refute it at one input. -/
def outsideThroughIsAttainedWrong : ChangeSpec := { name := "outsideThroughIsAttained", fn := fun _ => fun
  | [d1, d2] => { results := [.lit (.bool false)], args := [d1, d2] }
  | _ => none }
def OutsideThroughIsAttainedWrongFalsely : Prop := outsideThroughIsAttainedRow.holds Try.pinned (OpenSpec.ofChange outsideThroughIsAttainedWrong)

/-- 'emendatelaw33.OutsideRootEdges': WHATEVER THE INPUT: true; the input reads as it did. -/
def outsideRootEdgesSpec : ChangeSpec := { name := "outsideRootEdges", fn := fun _ => fun
  | [d1, d2] => { results := [.lit (.bool true)], args := [d1, d2] }
  | _ => none }
def outsideRootEdgesRow : OpenClaim := { program := "ytbalhkbpmahkgaa", sum := "3776518910028bdfa53817d4b64f1538156fd4c0df97e2e6c3f9c0ae683e8f87", func := "emendate/emendatelaw33.OutsideRootEdges", spec := "outsideRootEdges", unfollowed := true, recurses := true, apart := false }
def OutsideRootEdgesSaid : Prop := outsideRootEdgesRow.holds Try.pinned (OpenSpec.ofChange outsideRootEdgesSpec)

/-- ITS FALSE NEIGHBOUR: 'it returns false'. Refute it at one input. -/
def outsideRootEdgesWrong : ChangeSpec := { name := "outsideRootEdges", fn := fun _ => fun
  | [d1, d2] => { results := [.lit (.bool false)], args := [d1, d2] }
  | _ => none }
def OutsideRootEdgesWrongFalsely : Prop := outsideRootEdgesRow.holds Try.pinned (OpenSpec.ofChange outsideRootEdgesWrong)

/-- 'emendatelaw33.OutsideUnreachable': WHATEVER THE INPUT: true; the input reads as it did. -/
def outsideUnreachableSpec : ChangeSpec := { name := "outsideUnreachable", fn := fun _ => fun
  | [d1, d2] => { results := [.lit (.bool true)], args := [d1, d2] }
  | _ => none }
def outsideUnreachableRow : OpenClaim := { program := "ytbalhkbpmahkgaa", sum := "3776518910028bdfa53817d4b64f1538156fd4c0df97e2e6c3f9c0ae683e8f87", func := "emendate/emendatelaw33.OutsideUnreachable", spec := "outsideUnreachable", unfollowed := true, recurses := true, apart := false }
def OutsideUnreachableSaid : Prop := outsideUnreachableRow.holds Try.pinned (OpenSpec.ofChange outsideUnreachableSpec)

/-- ITS FALSE NEIGHBOUR: 'it returns false'. Refute it at one input. -/
def outsideUnreachableWrong : ChangeSpec := { name := "outsideUnreachable", fn := fun _ => fun
  | [d1, d2] => { results := [.lit (.bool false)], args := [d1, d2] }
  | _ => none }
def OutsideUnreachableWrongFalsely : Prop := outsideUnreachableRow.holds Try.pinned (OpenSpec.ofChange outsideUnreachableWrong)

/-- 'emendatelaw33.OutsideCheaperEdge': WHATEVER THE INPUT: true; the input reads as it did. -/
def outsideCheaperEdgeSpec : ChangeSpec := { name := "outsideCheaperEdge", fn := fun _ => fun
  | [d1, d2, d3] => { results := [.lit (.bool true)], args := [d1, d2, d3] }
  | _ => none }
def outsideCheaperEdgeRow : OpenClaim := { program := "ytbalhkbpmahkgaa", sum := "3776518910028bdfa53817d4b64f1538156fd4c0df97e2e6c3f9c0ae683e8f87", func := "emendate/emendatelaw33.OutsideCheaperEdge", spec := "outsideCheaperEdge", unfollowed := true, recurses := true, apart := false }
def OutsideCheaperEdgeSaid : Prop := outsideCheaperEdgeRow.holds Try.pinned (OpenSpec.ofChange outsideCheaperEdgeSpec)

/-- ITS FALSE NEIGHBOUR: 'it returns false'. Refute it at one input. -/
def outsideCheaperEdgeWrong : ChangeSpec := { name := "outsideCheaperEdge", fn := fun _ => fun
  | [d1, d2, d3] => { results := [.lit (.bool false)], args := [d1, d2, d3] }
  | _ => none }
def OutsideCheaperEdgeWrongFalsely : Prop := outsideCheaperEdgeRow.holds Try.pinned (OpenSpec.ofChange outsideCheaperEdgeWrong)

/- THE SECOND FORM. 'bulk': how many values and letters a reading holds, each counted each time it is reached (what is shared counts as often as it is met; a slice's spare places count too). A statement '..UptoSaid' is the law's where the arguments, and the package variables that the reading takes, are together of bulk at most 1048576: NARROWER than '..Said'. Prove '..Said' where nothing that the law and all that it calls make is longer than what came in: it says more and counts as full. Else prove '..UptoSaid'. A law counts once. -/
mutual
def uptoBulk {H : Type} : DataW H → Nat
  | .lit (.string bytes) => bytes.length + 1
  | .lit _ => 1
  | .nil => 1
  | .ptr d => uptoBulk d + 1
  | .slice elems spare => uptoBulkAll elems + uptoBulkAll spare + 1
  | .agg parts => uptoBulkAll parts + 1
  | .iface _ d => uptoBulk d + 1
  | .map entries => uptoBulkEntries entries + 1
  | .held _ => 1
def uptoBulkAll {H : Type} : List (DataW H) → Nat
  | [] => 0
  | d :: r => uptoBulk d + uptoBulkAll r
def uptoBulkEntries {H : Type} : List (Lit × DataW H) → Nat
  | [] => 0
  | x :: r => uptoBulkEntry x + uptoBulkEntries r
def uptoBulkEntry {H : Type} : Lit × DataW H → Nat
  | (.string bytes, d) => bytes.length + uptoBulk d + 1
  | (_, d) => uptoBulk d + 1
 end
def uptoSmall : (H : Type) → List (DataW H) → Bool := fun _ ds => decide (uptoBulkAll ds ≤ 1048576)
def OpenSpec.upto (s : _root_.Go.ChangeSpec) : _root_.Go.OpenSpec := { _root_.Go.OpenSpec.ofChange s with cond := some uptoSmall }

/-- 'emendatelaw33.OutsideMatchesReference', WHERE WHAT IT READS IS OF BULK AT MOST 1048576: true; the input reads as it did. -/
def outsideMatchesReferenceUptoRow : OpenClaim := { program := "ytbalhkbpmahkgaa", sum := "3776518910028bdfa53817d4b64f1538156fd4c0df97e2e6c3f9c0ae683e8f87", func := "emendate/emendatelaw33.OutsideMatchesReference", spec := "outsideMatchesReference", unfollowed := true, recurses := true, apart := false, narrowed := true }
def OutsideMatchesReferenceUptoSaid : Prop := outsideMatchesReferenceUptoRow.holds Try.pinned (OpenSpec.upto outsideMatchesReferenceSpec)

/-- 'emendatelaw33.OutsideThroughMatchesReference', WHERE WHAT IT READS IS OF BULK AT MOST 1048576: true; the input reads as it did. -/
def outsideThroughMatchesReferenceUptoRow : OpenClaim := { program := "ytbalhkbpmahkgaa", sum := "3776518910028bdfa53817d4b64f1538156fd4c0df97e2e6c3f9c0ae683e8f87", func := "emendate/emendatelaw33.OutsideThroughMatchesReference", spec := "outsideThroughMatchesReference", unfollowed := true, recurses := true, apart := false, narrowed := true }
def OutsideThroughMatchesReferenceUptoSaid : Prop := outsideThroughMatchesReferenceUptoRow.holds Try.pinned (OpenSpec.upto outsideThroughMatchesReferenceSpec)

/-- 'emendatelaw33.OutsideThroughIsLowerBound', WHERE WHAT IT READS IS OF BULK AT MOST 1048576: true; the input reads as it did. -/
def outsideThroughIsLowerBoundUptoRow : OpenClaim := { program := "ytbalhkbpmahkgaa", sum := "3776518910028bdfa53817d4b64f1538156fd4c0df97e2e6c3f9c0ae683e8f87", func := "emendate/emendatelaw33.OutsideThroughIsLowerBound", spec := "outsideThroughIsLowerBound", unfollowed := true, recurses := true, loops := true, apart := false, narrowed := true }
def OutsideThroughIsLowerBoundUptoSaid : Prop := outsideThroughIsLowerBoundUptoRow.holds Try.pinned (OpenSpec.upto outsideThroughIsLowerBoundSpec)

/-- 'emendatelaw33.OutsideThroughIsAttained', WHERE WHAT IT READS IS OF BULK AT MOST 1048576: true; the input reads as it did. -/
def outsideThroughIsAttainedUptoRow : OpenClaim := { program := "ytbalhkbpmahkgaa", sum := "3776518910028bdfa53817d4b64f1538156fd4c0df97e2e6c3f9c0ae683e8f87", func := "emendate/emendatelaw33.OutsideThroughIsAttained", spec := "outsideThroughIsAttained", unfollowed := true, recurses := true, apart := false, narrowed := true }
def OutsideThroughIsAttainedUptoSaid : Prop := outsideThroughIsAttainedUptoRow.holds Try.pinned (OpenSpec.upto outsideThroughIsAttainedSpec)

/-- 'emendatelaw33.OutsideRootEdges', WHERE WHAT IT READS IS OF BULK AT MOST 1048576: true; the input reads as it did. -/
def outsideRootEdgesUptoRow : OpenClaim := { program := "ytbalhkbpmahkgaa", sum := "3776518910028bdfa53817d4b64f1538156fd4c0df97e2e6c3f9c0ae683e8f87", func := "emendate/emendatelaw33.OutsideRootEdges", spec := "outsideRootEdges", unfollowed := true, recurses := true, apart := false, narrowed := true }
def OutsideRootEdgesUptoSaid : Prop := outsideRootEdgesUptoRow.holds Try.pinned (OpenSpec.upto outsideRootEdgesSpec)

/-- 'emendatelaw33.OutsideUnreachable', WHERE WHAT IT READS IS OF BULK AT MOST 1048576: true; the input reads as it did. -/
def outsideUnreachableUptoRow : OpenClaim := { program := "ytbalhkbpmahkgaa", sum := "3776518910028bdfa53817d4b64f1538156fd4c0df97e2e6c3f9c0ae683e8f87", func := "emendate/emendatelaw33.OutsideUnreachable", spec := "outsideUnreachable", unfollowed := true, recurses := true, apart := false, narrowed := true }
def OutsideUnreachableUptoSaid : Prop := outsideUnreachableUptoRow.holds Try.pinned (OpenSpec.upto outsideUnreachableSpec)

/-- 'emendatelaw33.OutsideCheaperEdge', WHERE WHAT IT READS IS OF BULK AT MOST 1048576: true; the input reads as it did. -/
def outsideCheaperEdgeUptoRow : OpenClaim := { program := "ytbalhkbpmahkgaa", sum := "3776518910028bdfa53817d4b64f1538156fd4c0df97e2e6c3f9c0ae683e8f87", func := "emendate/emendatelaw33.OutsideCheaperEdge", spec := "outsideCheaperEdge", unfollowed := true, recurses := true, apart := false, narrowed := true }
def OutsideCheaperEdgeUptoSaid : Prop := outsideCheaperEdgeUptoRow.holds Try.pinned (OpenSpec.upto outsideCheaperEdgeSpec)

end Rows
end Go.Proofs.Ytbalhkbpmahkgaa
