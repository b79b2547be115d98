/-
  NARROWER THAN 'FOR EVERY INPUT', by the rows' own cells (each row's printed sentence says how): KnuthLowerBound: loops.
  DERIVED. THE GIVEN ROWS OF THIS SEAT. 10 by the template 'for every input the law returns true; each argument reads behind the call as it read before'; 0 by the template 'total and deterministic' (their statements: YtkeiakmfnammbaaTotals.lean).
  GIVEN WITH THE SEED: the statements are not yours to turn. If you find one false, say at which input.
  Laid BY PROGRAM, IN A SANDBOX (cutbox-rows.mjs): the forced cells as the released guide's own fill.sh prints them over the translation abd9fc60f3c71232… (all of the seat's roots in one cut). By AI agents, Wed Nov 11 2026. No macro, syntax, notation, axiom, sorry.
-/
import Derived.Test.YtkeiakmfnammbaaChecked
import GoSem.Claim
import GoSem.ClaimJoined
import GoSem.ClaimMapViews
import Derived.JoinedTies
import Derived.KernelRfl
namespace Go.Proofs.Ytkeiakmfnammbaa
/- THE CELL 'sum', in the pinned program and in every row, IS THE sha256 OF THE DUMP (.gsa) THAT YtkeiakmfnammbaaProg.lean LOADS. Nothing in Lean hashes anything: it is a label: what it is worth is what the hold of that sum in a sandbox is worth. -/
noncomputable def Try.pinned : Pinned := { name := "ytkeiakmfnammbaa", sum := "abd9fc60f3c71232f2b10636cd0d28e7bee30d394d90059daccf2acda6d26383", checked := Try.checked }
namespace Rows
def none {H : Type} : Left H := { results := [], args := [] }

/-- 'emendatelaw29.KnuthLess': WHATEVER THE INPUT: true; the input reads as it did. -/
def knuthLessSpec : ChangeSpec := { name := "knuthLess", fn := fun _ => fun
  | [d1, d2, d3] => { results := [.lit (.bool true)], args := [d1, d2, d3] }
  | _ => none }
def knuthLessRow : OpenClaim := { program := "ytkeiakmfnammbaa", sum := "abd9fc60f3c71232f2b10636cd0d28e7bee30d394d90059daccf2acda6d26383", func := "emendate/emendatelaw29.KnuthLess", spec := "knuthLess", unfollowed := true, recurses := true, apart := false }
def KnuthLessSaid : Prop := knuthLessRow.holds Try.pinned (OpenSpec.ofChange knuthLessSpec)

/-- ITS FALSE NEIGHBOUR: 'it returns false'. Refute it at one input. -/
def knuthLessWrong : ChangeSpec := { name := "knuthLess", fn := fun _ => fun
  | [d1, d2, d3] => { results := [.lit (.bool false)], args := [d1, d2, d3] }
  | _ => none }
def KnuthLessWrongFalsely : Prop := knuthLessRow.holds Try.pinned (OpenSpec.ofChange knuthLessWrong)

/-- 'emendatelaw29.KnuthCombine': WHATEVER THE INPUT: true; the input reads as it did. -/
def knuthCombineSpec : ChangeSpec := { name := "knuthCombine", fn := fun _ => fun
  | [d1, d2] => { results := [.lit (.bool true)], args := [d1, d2] }
  | _ => none }
def knuthCombineRow : OpenClaim := { program := "ytkeiakmfnammbaa", sum := "abd9fc60f3c71232f2b10636cd0d28e7bee30d394d90059daccf2acda6d26383", func := "emendate/emendatelaw29.KnuthCombine", spec := "knuthCombine", unfollowed := true, recurses := true, apart := false }
def KnuthCombineSaid : Prop := knuthCombineRow.holds Try.pinned (OpenSpec.ofChange knuthCombineSpec)

/-- ITS FALSE NEIGHBOUR: 'it returns false'. Refute it at one input. -/
def knuthCombineWrong : ChangeSpec := { name := "knuthCombine", fn := fun _ => fun
  | [d1, d2] => { results := [.lit (.bool false)], args := [d1, d2] }
  | _ => none }
def KnuthCombineWrongFalsely : Prop := knuthCombineRow.holds Try.pinned (OpenSpec.ofChange knuthCombineWrong)

/-- 'emendatelaw29.KnuthSuperior': WHATEVER THE INPUT: true; the input reads as it did. -/
def knuthSuperiorSpec : ChangeSpec := { name := "knuthSuperior", fn := fun _ => fun
  | [d1, d2, d3] => { results := [.lit (.bool true)], args := [d1, d2, d3] }
  | _ => none }
def knuthSuperiorRow : OpenClaim := { program := "ytkeiakmfnammbaa", sum := "abd9fc60f3c71232f2b10636cd0d28e7bee30d394d90059daccf2acda6d26383", func := "emendate/emendatelaw29.KnuthSuperior", spec := "knuthSuperior", unfollowed := true, recurses := true, apart := false }
def KnuthSuperiorSaid : Prop := knuthSuperiorRow.holds Try.pinned (OpenSpec.ofChange knuthSuperiorSpec)

/-- ITS FALSE NEIGHBOUR: 'it returns false'. Refute it at one input. -/
def knuthSuperiorWrong : ChangeSpec := { name := "knuthSuperior", fn := fun _ => fun
  | [d1, d2, d3] => { results := [.lit (.bool false)], args := [d1, d2, d3] }
  | _ => none }
def KnuthSuperiorWrongFalsely : Prop := knuthSuperiorRow.holds Try.pinned (OpenSpec.ofChange knuthSuperiorWrong)

/-- 'emendatelaw29.KnuthSolve': WHATEVER THE INPUT: true; the input reads as it did. -/
def knuthSolveSpec : ChangeSpec := { name := "knuthSolve", fn := fun _ => fun
  | [d] => { results := [.lit (.bool true)], args := [d] }
  | _ => none }
def knuthSolveRow : OpenClaim := { program := "ytkeiakmfnammbaa", sum := "abd9fc60f3c71232f2b10636cd0d28e7bee30d394d90059daccf2acda6d26383", func := "emendate/emendatelaw29.KnuthSolve", spec := "knuthSolve", unfollowed := true, recurses := true, apart := false }
def KnuthSolveSaid : Prop := knuthSolveRow.holds Try.pinned (OpenSpec.ofChange knuthSolveSpec)

/-- ITS FALSE NEIGHBOUR: 'it returns false'. Refute it at one input. -/
def knuthSolveWrong : ChangeSpec := { name := "knuthSolve", fn := fun _ => fun
  | [d] => { results := [.lit (.bool false)], args := [d] }
  | _ => none }
def KnuthSolveWrongFalsely : Prop := knuthSolveRow.holds Try.pinned (OpenSpec.ofChange knuthSolveWrong)

/-- 'emendatelaw29.KnuthFixpoint': WHATEVER THE INPUT: true; the input reads as it did. -/
def knuthFixpointSpec : ChangeSpec := { name := "knuthFixpoint", fn := fun _ => fun
  | [d] => { results := [.lit (.bool true)], args := [d] }
  | _ => none }
def knuthFixpointRow : OpenClaim := { program := "ytkeiakmfnammbaa", sum := "abd9fc60f3c71232f2b10636cd0d28e7bee30d394d90059daccf2acda6d26383", func := "emendate/emendatelaw29.KnuthFixpoint", spec := "knuthFixpoint", unfollowed := true, recurses := true, apart := false }
def KnuthFixpointSaid : Prop := knuthFixpointRow.holds Try.pinned (OpenSpec.ofChange knuthFixpointSpec)

/-- ITS FALSE NEIGHBOUR: 'it returns false'. Refute it at one input. -/
def knuthFixpointWrong : ChangeSpec := { name := "knuthFixpoint", fn := fun _ => fun
  | [d] => { results := [.lit (.bool false)], args := [d] }
  | _ => none }
def KnuthFixpointWrongFalsely : Prop := knuthFixpointRow.holds Try.pinned (OpenSpec.ofChange knuthFixpointWrong)

/-- 'emendatelaw29.KnuthLowerBound': WHATEVER THE INPUT: true; the input reads as it did. -/
def knuthLowerBoundSpec : ChangeSpec := { name := "knuthLowerBound", fn := fun _ => fun
  | [d1, d2, d3] => { results := [.lit (.bool true)], args := [d1, d2, d3] }
  | _ => none }
def knuthLowerBoundRow : OpenClaim := { program := "ytkeiakmfnammbaa", sum := "abd9fc60f3c71232f2b10636cd0d28e7bee30d394d90059daccf2acda6d26383", func := "emendate/emendatelaw29.KnuthLowerBound", spec := "knuthLowerBound", unfollowed := true, recurses := true, loops := true, apart := false }
def KnuthLowerBoundSaid : Prop := knuthLowerBoundRow.holds Try.pinned (OpenSpec.ofChange knuthLowerBoundSpec)

/-- ITS FALSE NEIGHBOUR: 'it returns false'. Refute it at one input. -/
def knuthLowerBoundWrong : ChangeSpec := { name := "knuthLowerBound", fn := fun _ => fun
  | [d1, d2, d3] => { results := [.lit (.bool false)], args := [d1, d2, d3] }
  | _ => none }
def KnuthLowerBoundWrongFalsely : Prop := knuthLowerBoundRow.holds Try.pinned (OpenSpec.ofChange knuthLowerBoundWrong)

/-- 'emendatelaw29.KnuthChosenEdges': WHATEVER THE INPUT: true; the input reads as it did. -/
def knuthChosenEdgesSpec : ChangeSpec := { name := "knuthChosenEdges", fn := fun _ => fun
  | [d] => { results := [.lit (.bool true)], args := [d] }
  | _ => none }
def knuthChosenEdgesRow : OpenClaim := { program := "ytkeiakmfnammbaa", sum := "abd9fc60f3c71232f2b10636cd0d28e7bee30d394d90059daccf2acda6d26383", func := "emendate/emendatelaw29.KnuthChosenEdges", spec := "knuthChosenEdges", unfollowed := true, recurses := true, apart := false }
def KnuthChosenEdgesSaid : Prop := knuthChosenEdgesRow.holds Try.pinned (OpenSpec.ofChange knuthChosenEdgesSpec)

/-- ITS FALSE NEIGHBOUR: 'it returns false'. Refute it at one input. -/
def knuthChosenEdgesWrong : ChangeSpec := { name := "knuthChosenEdges", fn := fun _ => fun
  | [d] => { results := [.lit (.bool false)], args := [d] }
  | _ => none }
def KnuthChosenEdgesWrongFalsely : Prop := knuthChosenEdgesRow.holds Try.pinned (OpenSpec.ofChange knuthChosenEdgesWrong)

/-- 'emendatelaw29.KnuthMonotone': WHATEVER THE INPUT: true; the input reads as it did. -/
def knuthMonotoneSpec : ChangeSpec := { name := "knuthMonotone", fn := fun _ => fun
  | [d1, d2, d3] => { results := [.lit (.bool true)], args := [d1, d2, d3] }
  | _ => none }
def knuthMonotoneRow : OpenClaim := { program := "ytkeiakmfnammbaa", sum := "abd9fc60f3c71232f2b10636cd0d28e7bee30d394d90059daccf2acda6d26383", func := "emendate/emendatelaw29.KnuthMonotone", spec := "knuthMonotone", unfollowed := true, recurses := true, apart := false }
def KnuthMonotoneSaid : Prop := knuthMonotoneRow.holds Try.pinned (OpenSpec.ofChange knuthMonotoneSpec)

/-- ITS FALSE NEIGHBOUR: 'it returns false'. Refute it at one input. -/
def knuthMonotoneWrong : ChangeSpec := { name := "knuthMonotone", fn := fun _ => fun
  | [d1, d2, d3] => { results := [.lit (.bool false)], args := [d1, d2, d3] }
  | _ => none }
def KnuthMonotoneWrongFalsely : Prop := knuthMonotoneRow.holds Try.pinned (OpenSpec.ofChange knuthMonotoneWrong)

/-- 'emendatelaw29.KnuthScale': WHATEVER THE INPUT: true; the input reads as it did. -/
def knuthScaleSpec : ChangeSpec := { name := "knuthScale", fn := fun _ => fun
  | [d1, d2] => { results := [.lit (.bool true)], args := [d1, d2] }
  | _ => none }
def knuthScaleRow : OpenClaim := { program := "ytkeiakmfnammbaa", sum := "abd9fc60f3c71232f2b10636cd0d28e7bee30d394d90059daccf2acda6d26383", func := "emendate/emendatelaw29.KnuthScale", spec := "knuthScale", unfollowed := true, recurses := true, apart := false }
def KnuthScaleSaid : Prop := knuthScaleRow.holds Try.pinned (OpenSpec.ofChange knuthScaleSpec)

/-- ITS FALSE NEIGHBOUR: 'it returns false'. Refute it at one input. -/
def knuthScaleWrong : ChangeSpec := { name := "knuthScale", fn := fun _ => fun
  | [d1, d2] => { results := [.lit (.bool false)], args := [d1, d2] }
  | _ => none }
def KnuthScaleWrongFalsely : Prop := knuthScaleRow.holds Try.pinned (OpenSpec.ofChange knuthScaleWrong)

/-- 'emendatelaw29.KnuthRelabel': WHATEVER THE INPUT: true; the input reads as it did. -/
def knuthRelabelSpec : ChangeSpec := { name := "knuthRelabel", fn := fun _ => fun
  | [d1, d2] => { results := [.lit (.bool true)], args := [d1, d2] }
  | _ => none }
def knuthRelabelRow : OpenClaim := { program := "ytkeiakmfnammbaa", sum := "abd9fc60f3c71232f2b10636cd0d28e7bee30d394d90059daccf2acda6d26383", func := "emendate/emendatelaw29.KnuthRelabel", spec := "knuthRelabel", unfollowed := true, recurses := true, apart := false }
def KnuthRelabelSaid : Prop := knuthRelabelRow.holds Try.pinned (OpenSpec.ofChange knuthRelabelSpec)

/-- ITS FALSE NEIGHBOUR: 'it returns false'. Refute it at one input. -/
def knuthRelabelWrong : ChangeSpec := { name := "knuthRelabel", fn := fun _ => fun
  | [d1, d2] => { results := [.lit (.bool false)], args := [d1, d2] }
  | _ => none }
def KnuthRelabelWrongFalsely : Prop := knuthRelabelRow.holds Try.pinned (OpenSpec.ofChange knuthRelabelWrong)

/- THE SECOND FORM. 'bulk': how many values and letters a reading holds, each counted each time it is reached (what is shared counts as often as it is met; a slice's spare places count too). A statement '..UptoSaid' is the law's where the arguments, and the package variables that the reading takes, are together of bulk at most 1048576: NARROWER than '..Said'. Prove '..Said' where nothing that the law and all that it calls make is longer than what came in: it says more and counts as full. Else prove '..UptoSaid'. A law counts once. -/
mutual
def uptoBulk {H : Type} : DataW H → Nat
  | .lit (.string bytes) => bytes.length + 1
  | .lit _ => 1
  | .nil => 1
  | .ptr d => uptoBulk d + 1
  | .slice elems spare => uptoBulkAll elems + uptoBulkAll spare + 1
  | .agg parts => uptoBulkAll parts + 1
  | .iface _ d => uptoBulk d + 1
  | .map entries => uptoBulkEntries entries + 1
  | .held _ => 1
def uptoBulkAll {H : Type} : List (DataW H) → Nat
  | [] => 0
  | d :: r => uptoBulk d + uptoBulkAll r
def uptoBulkEntries {H : Type} : List (Lit × DataW H) → Nat
  | [] => 0
  | x :: r => uptoBulkEntry x + uptoBulkEntries r
def uptoBulkEntry {H : Type} : Lit × DataW H → Nat
  | (.string bytes, d) => bytes.length + uptoBulk d + 1
  | (_, d) => uptoBulk d + 1
 end
def uptoSmall : (H : Type) → List (DataW H) → Bool := fun _ ds => decide (uptoBulkAll ds ≤ 1048576)
def OpenSpec.upto (s : _root_.Go.ChangeSpec) : _root_.Go.OpenSpec := { _root_.Go.OpenSpec.ofChange s with cond := some uptoSmall }

/-- 'emendatelaw29.KnuthLess', WHERE WHAT IT READS IS OF BULK AT MOST 1048576: true; the input reads as it did. -/
def knuthLessUptoRow : OpenClaim := { program := "ytkeiakmfnammbaa", sum := "abd9fc60f3c71232f2b10636cd0d28e7bee30d394d90059daccf2acda6d26383", func := "emendate/emendatelaw29.KnuthLess", spec := "knuthLess", unfollowed := true, recurses := true, apart := false, narrowed := true }
def KnuthLessUptoSaid : Prop := knuthLessUptoRow.holds Try.pinned (OpenSpec.upto knuthLessSpec)

/-- 'emendatelaw29.KnuthCombine', WHERE WHAT IT READS IS OF BULK AT MOST 1048576: true; the input reads as it did. -/
def knuthCombineUptoRow : OpenClaim := { program := "ytkeiakmfnammbaa", sum := "abd9fc60f3c71232f2b10636cd0d28e7bee30d394d90059daccf2acda6d26383", func := "emendate/emendatelaw29.KnuthCombine", spec := "knuthCombine", unfollowed := true, recurses := true, apart := false, narrowed := true }
def KnuthCombineUptoSaid : Prop := knuthCombineUptoRow.holds Try.pinned (OpenSpec.upto knuthCombineSpec)

/-- 'emendatelaw29.KnuthSuperior', WHERE WHAT IT READS IS OF BULK AT MOST 1048576: true; the input reads as it did. -/
def knuthSuperiorUptoRow : OpenClaim := { program := "ytkeiakmfnammbaa", sum := "abd9fc60f3c71232f2b10636cd0d28e7bee30d394d90059daccf2acda6d26383", func := "emendate/emendatelaw29.KnuthSuperior", spec := "knuthSuperior", unfollowed := true, recurses := true, apart := false, narrowed := true }
def KnuthSuperiorUptoSaid : Prop := knuthSuperiorUptoRow.holds Try.pinned (OpenSpec.upto knuthSuperiorSpec)

/-- 'emendatelaw29.KnuthSolve', WHERE WHAT IT READS IS OF BULK AT MOST 1048576: true; the input reads as it did. -/
def knuthSolveUptoRow : OpenClaim := { program := "ytkeiakmfnammbaa", sum := "abd9fc60f3c71232f2b10636cd0d28e7bee30d394d90059daccf2acda6d26383", func := "emendate/emendatelaw29.KnuthSolve", spec := "knuthSolve", unfollowed := true, recurses := true, apart := false, narrowed := true }
def KnuthSolveUptoSaid : Prop := knuthSolveUptoRow.holds Try.pinned (OpenSpec.upto knuthSolveSpec)

/-- 'emendatelaw29.KnuthFixpoint', WHERE WHAT IT READS IS OF BULK AT MOST 1048576: true; the input reads as it did. -/
def knuthFixpointUptoRow : OpenClaim := { program := "ytkeiakmfnammbaa", sum := "abd9fc60f3c71232f2b10636cd0d28e7bee30d394d90059daccf2acda6d26383", func := "emendate/emendatelaw29.KnuthFixpoint", spec := "knuthFixpoint", unfollowed := true, recurses := true, apart := false, narrowed := true }
def KnuthFixpointUptoSaid : Prop := knuthFixpointUptoRow.holds Try.pinned (OpenSpec.upto knuthFixpointSpec)

/-- 'emendatelaw29.KnuthLowerBound', WHERE WHAT IT READS IS OF BULK AT MOST 1048576: true; the input reads as it did. -/
def knuthLowerBoundUptoRow : OpenClaim := { program := "ytkeiakmfnammbaa", sum := "abd9fc60f3c71232f2b10636cd0d28e7bee30d394d90059daccf2acda6d26383", func := "emendate/emendatelaw29.KnuthLowerBound", spec := "knuthLowerBound", unfollowed := true, recurses := true, loops := true, apart := false, narrowed := true }
def KnuthLowerBoundUptoSaid : Prop := knuthLowerBoundUptoRow.holds Try.pinned (OpenSpec.upto knuthLowerBoundSpec)

/-- 'emendatelaw29.KnuthChosenEdges', WHERE WHAT IT READS IS OF BULK AT MOST 1048576: true; the input reads as it did. -/
def knuthChosenEdgesUptoRow : OpenClaim := { program := "ytkeiakmfnammbaa", sum := "abd9fc60f3c71232f2b10636cd0d28e7bee30d394d90059daccf2acda6d26383", func := "emendate/emendatelaw29.KnuthChosenEdges", spec := "knuthChosenEdges", unfollowed := true, recurses := true, apart := false, narrowed := true }
def KnuthChosenEdgesUptoSaid : Prop := knuthChosenEdgesUptoRow.holds Try.pinned (OpenSpec.upto knuthChosenEdgesSpec)

/-- 'emendatelaw29.KnuthMonotone', WHERE WHAT IT READS IS OF BULK AT MOST 1048576: true; the input reads as it did. -/
def knuthMonotoneUptoRow : OpenClaim := { program := "ytkeiakmfnammbaa", sum := "abd9fc60f3c71232f2b10636cd0d28e7bee30d394d90059daccf2acda6d26383", func := "emendate/emendatelaw29.KnuthMonotone", spec := "knuthMonotone", unfollowed := true, recurses := true, apart := false, narrowed := true }
def KnuthMonotoneUptoSaid : Prop := knuthMonotoneUptoRow.holds Try.pinned (OpenSpec.upto knuthMonotoneSpec)

/-- 'emendatelaw29.KnuthScale', WHERE WHAT IT READS IS OF BULK AT MOST 1048576: true; the input reads as it did. -/
def knuthScaleUptoRow : OpenClaim := { program := "ytkeiakmfnammbaa", sum := "abd9fc60f3c71232f2b10636cd0d28e7bee30d394d90059daccf2acda6d26383", func := "emendate/emendatelaw29.KnuthScale", spec := "knuthScale", unfollowed := true, recurses := true, apart := false, narrowed := true }
def KnuthScaleUptoSaid : Prop := knuthScaleUptoRow.holds Try.pinned (OpenSpec.upto knuthScaleSpec)

/-- 'emendatelaw29.KnuthRelabel', WHERE WHAT IT READS IS OF BULK AT MOST 1048576: true; the input reads as it did. -/
def knuthRelabelUptoRow : OpenClaim := { program := "ytkeiakmfnammbaa", sum := "abd9fc60f3c71232f2b10636cd0d28e7bee30d394d90059daccf2acda6d26383", func := "emendate/emendatelaw29.KnuthRelabel", spec := "knuthRelabel", unfollowed := true, recurses := true, apart := false, narrowed := true }
def KnuthRelabelUptoSaid : Prop := knuthRelabelUptoRow.holds Try.pinned (OpenSpec.upto knuthRelabelSpec)

end Rows
end Go.Proofs.Ytkeiakmfnammbaa
