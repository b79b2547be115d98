/-
  No cell of these rows narrows 'for every input' (looked for: loops, veiled, ifaces, maps, wideKeys, modest, calm, conditions, laid).
  DERIVED. THE GIVEN ROWS OF THIS SEAT. 7 by the template 'for every input the law returns true; each argument reads behind the call as it read before'; 0 by the template 'total and deterministic' (their statements: YthbcnpoldoklbaaTotals.lean).
  GIVEN WITH THE SEED: the statements are not yours to turn. If you find one false, say at which input.
  Laid BY PROGRAM, IN A SANDBOX (cutbox-rows.mjs): the forced cells as the released guide's own fill.sh prints them over the translation d397b9b878aff031… (all of the seat's roots in one cut). By AI agents, Wed Nov 11 2026. No macro, syntax, notation, axiom, sorry.
-/
import Derived.Test.YthbcnpoldoklbaaChecked
import GoSem.Claim
import GoSem.ClaimJoined
import GoSem.ClaimMapViews
import Derived.JoinedTies
import Derived.KernelRfl
namespace Go.Proofs.Ythbcnpoldoklbaa
/- THE CELL 'sum', in the pinned program and in every row, IS THE sha256 OF THE DUMP (.gsa) THAT YthbcnpoldoklbaaProg.lean LOADS. Nothing in Lean hashes anything: it is a label: what it is worth is what the hold of that sum in a sandbox is worth. -/
noncomputable def Try.pinned : Pinned := { name := "ythbcnpoldoklbaa", sum := "d397b9b878aff03125bf5ba2f95ffa99bcb3799cb7400beefcc30e8c5fd49f98", checked := Try.checked }
namespace Rows
def none {H : Type} : Left H := { results := [], args := [] }

/-- 'emendatelaw04.LineindexInverse': WHATEVER THE INPUT: true; the input reads as it did. -/
def lineindexInverseSpec : ChangeSpec := { name := "lineindexInverse", fn := fun _ => fun
  | [d] => { results := [.lit (.bool true)], args := [d] }
  | _ => none }
def lineindexInverseRow : OpenClaim := { program := "ythbcnpoldoklbaa", sum := "d397b9b878aff03125bf5ba2f95ffa99bcb3799cb7400beefcc30e8c5fd49f98", func := "emendate/emendatelaw04.LineindexInverse", spec := "lineindexInverse", unfollowed := true, recurses := true, apart := false }
def LineindexInverseSaid : Prop := lineindexInverseRow.holds Try.pinned (OpenSpec.ofChange lineindexInverseSpec)

/-- ITS FALSE NEIGHBOUR: 'it returns false'. Refute it at one input. -/
def lineindexInverseWrong : ChangeSpec := { name := "lineindexInverse", fn := fun _ => fun
  | [d] => { results := [.lit (.bool false)], args := [d] }
  | _ => none }
def LineindexInverseWrongFalsely : Prop := lineindexInverseRow.holds Try.pinned (OpenSpec.ofChange lineindexInverseWrong)

/-- 'emendatelaw04.LineindexOrder': WHATEVER THE INPUT: true; the input reads as it did. -/
def lineindexOrderSpec : ChangeSpec := { name := "lineindexOrder", fn := fun _ => fun
  | [d] => { results := [.lit (.bool true)], args := [d] }
  | _ => none }
def lineindexOrderRow : OpenClaim := { program := "ythbcnpoldoklbaa", sum := "d397b9b878aff03125bf5ba2f95ffa99bcb3799cb7400beefcc30e8c5fd49f98", func := "emendate/emendatelaw04.LineindexOrder", spec := "lineindexOrder", unfollowed := true, recurses := true, apart := false }
def LineindexOrderSaid : Prop := lineindexOrderRow.holds Try.pinned (OpenSpec.ofChange lineindexOrderSpec)

/-- ITS FALSE NEIGHBOUR: 'it returns false'. Refute it at one input. -/
def lineindexOrderWrong : ChangeSpec := { name := "lineindexOrder", fn := fun _ => fun
  | [d] => { results := [.lit (.bool false)], args := [d] }
  | _ => none }
def LineindexOrderWrongFalsely : Prop := lineindexOrderRow.holds Try.pinned (OpenSpec.ofChange lineindexOrderWrong)

/-- 'emendatelaw04.LineindexPositions': WHATEVER THE INPUT: true; the input reads as it did. -/
def lineindexPositionsSpec : ChangeSpec := { name := "lineindexPositions", fn := fun _ => fun
  | [d] => { results := [.lit (.bool true)], args := [d] }
  | _ => none }
def lineindexPositionsRow : OpenClaim := { program := "ythbcnpoldoklbaa", sum := "d397b9b878aff03125bf5ba2f95ffa99bcb3799cb7400beefcc30e8c5fd49f98", func := "emendate/emendatelaw04.LineindexPositions", spec := "lineindexPositions", unfollowed := true, recurses := true, apart := false }
def LineindexPositionsSaid : Prop := lineindexPositionsRow.holds Try.pinned (OpenSpec.ofChange lineindexPositionsSpec)

/-- ITS FALSE NEIGHBOUR: 'it returns false'. Refute it at one input. -/
def lineindexPositionsWrong : ChangeSpec := { name := "lineindexPositions", fn := fun _ => fun
  | [d] => { results := [.lit (.bool false)], args := [d] }
  | _ => none }
def LineindexPositionsWrongFalsely : Prop := lineindexPositionsRow.holds Try.pinned (OpenSpec.ofChange lineindexPositionsWrong)

/-- 'emendatelaw04.LineindexOffsets': WHATEVER THE INPUT: true; the input reads as it did. -/
def lineindexOffsetsSpec : ChangeSpec := { name := "lineindexOffsets", fn := fun _ => fun
  | [d1, d2, d3] => { results := [.lit (.bool true)], args := [d1, d2, d3] }
  | _ => none }
def lineindexOffsetsRow : OpenClaim := { program := "ythbcnpoldoklbaa", sum := "d397b9b878aff03125bf5ba2f95ffa99bcb3799cb7400beefcc30e8c5fd49f98", func := "emendate/emendatelaw04.LineindexOffsets", spec := "lineindexOffsets", unfollowed := true, recurses := true, apart := false }
def LineindexOffsetsSaid : Prop := lineindexOffsetsRow.holds Try.pinned (OpenSpec.ofChange lineindexOffsetsSpec)

/-- ITS FALSE NEIGHBOUR: 'it returns false'. Refute it at one input. -/
def lineindexOffsetsWrong : ChangeSpec := { name := "lineindexOffsets", fn := fun _ => fun
  | [d1, d2, d3] => { results := [.lit (.bool false)], args := [d1, d2, d3] }
  | _ => none }
def LineindexOffsetsWrongFalsely : Prop := lineindexOffsetsRow.holds Try.pinned (OpenSpec.ofChange lineindexOffsetsWrong)

/-- 'emendatelaw04.LineindexJoin': WHATEVER THE INPUT: true; the input reads as it did. -/
def lineindexJoinSpec : ChangeSpec := { name := "lineindexJoin", fn := fun _ => fun
  | [d] => { results := [.lit (.bool true)], args := [d] }
  | _ => none }
def lineindexJoinRow : OpenClaim := { program := "ythbcnpoldoklbaa", sum := "d397b9b878aff03125bf5ba2f95ffa99bcb3799cb7400beefcc30e8c5fd49f98", func := "emendate/emendatelaw04.LineindexJoin", spec := "lineindexJoin", unfollowed := true, recurses := true, apart := false }
def LineindexJoinSaid : Prop := lineindexJoinRow.holds Try.pinned (OpenSpec.ofChange lineindexJoinSpec)

/-- ITS FALSE NEIGHBOUR: 'it returns false'. Refute it at one input. -/
def lineindexJoinWrong : ChangeSpec := { name := "lineindexJoin", fn := fun _ => fun
  | [d] => { results := [.lit (.bool false)], args := [d] }
  | _ => none }
def LineindexJoinWrongFalsely : Prop := lineindexJoinRow.holds Try.pinned (OpenSpec.ofChange lineindexJoinWrong)

/-- 'emendatelaw04.LineindexInsert': WHATEVER THE INPUT: true; the input reads as it did. -/
def lineindexInsertSpec : ChangeSpec := { name := "lineindexInsert", fn := fun _ => fun
  | [d1, d2, d3] => { results := [.lit (.bool true)], args := [d1, d2, d3] }
  | _ => none }
def lineindexInsertRow : OpenClaim := { program := "ythbcnpoldoklbaa", sum := "d397b9b878aff03125bf5ba2f95ffa99bcb3799cb7400beefcc30e8c5fd49f98", func := "emendate/emendatelaw04.LineindexInsert", spec := "lineindexInsert", unfollowed := true, recurses := true, apart := false }
def LineindexInsertSaid : Prop := lineindexInsertRow.holds Try.pinned (OpenSpec.ofChange lineindexInsertSpec)

/-- ITS FALSE NEIGHBOUR: 'it returns false'. Refute it at one input. -/
def lineindexInsertWrong : ChangeSpec := { name := "lineindexInsert", fn := fun _ => fun
  | [d1, d2, d3] => { results := [.lit (.bool false)], args := [d1, d2, d3] }
  | _ => none }
def LineindexInsertWrongFalsely : Prop := lineindexInsertRow.holds Try.pinned (OpenSpec.ofChange lineindexInsertWrong)

/-- 'emendatelaw04.LineindexUpdate': WHATEVER THE INPUT: true; the input reads as it did. -/
def lineindexUpdateSpec : ChangeSpec := { name := "lineindexUpdate", fn := fun _ => fun
  | [d1, d2] => { results := [.lit (.bool true)], args := [d1, d2] }
  | _ => none }
def lineindexUpdateRow : OpenClaim := { program := "ythbcnpoldoklbaa", sum := "d397b9b878aff03125bf5ba2f95ffa99bcb3799cb7400beefcc30e8c5fd49f98", func := "emendate/emendatelaw04.LineindexUpdate", spec := "lineindexUpdate", unfollowed := true, recurses := true, apart := false }
def LineindexUpdateSaid : Prop := lineindexUpdateRow.holds Try.pinned (OpenSpec.ofChange lineindexUpdateSpec)

/-- ITS FALSE NEIGHBOUR: 'it returns false'. Refute it at one input. -/
def lineindexUpdateWrong : ChangeSpec := { name := "lineindexUpdate", fn := fun _ => fun
  | [d1, d2] => { results := [.lit (.bool false)], args := [d1, d2] }
  | _ => none }
def LineindexUpdateWrongFalsely : Prop := lineindexUpdateRow.holds Try.pinned (OpenSpec.ofChange lineindexUpdateWrong)

/- THE SECOND FORM. 'bulk': how many values and letters a reading holds, each counted each time it is reached (what is shared counts as often as it is met; a slice's spare places count too). A statement '..UptoSaid' is the law's where the arguments, and the package variables that the reading takes, are together of bulk at most 1048576: NARROWER than '..Said'. Prove '..Said' where nothing that the law and all that it calls make is longer than what came in: it says more and counts as full. Else prove '..UptoSaid'. A law counts once. -/
mutual
def uptoBulk {H : Type} : DataW H → Nat
  | .lit (.string bytes) => bytes.length + 1
  | .lit _ => 1
  | .nil => 1
  | .ptr d => uptoBulk d + 1
  | .slice elems spare => uptoBulkAll elems + uptoBulkAll spare + 1
  | .agg parts => uptoBulkAll parts + 1
  | .iface _ d => uptoBulk d + 1
  | .map entries => uptoBulkEntries entries + 1
  | .held _ => 1
def uptoBulkAll {H : Type} : List (DataW H) → Nat
  | [] => 0
  | d :: r => uptoBulk d + uptoBulkAll r
def uptoBulkEntries {H : Type} : List (Lit × DataW H) → Nat
  | [] => 0
  | x :: r => uptoBulkEntry x + uptoBulkEntries r
def uptoBulkEntry {H : Type} : Lit × DataW H → Nat
  | (.string bytes, d) => bytes.length + uptoBulk d + 1
  | (_, d) => uptoBulk d + 1
 end
def uptoSmall : (H : Type) → List (DataW H) → Bool := fun _ ds => decide (uptoBulkAll ds ≤ 1048576)
def OpenSpec.upto (s : _root_.Go.ChangeSpec) : _root_.Go.OpenSpec := { _root_.Go.OpenSpec.ofChange s with cond := some uptoSmall }

/-- 'emendatelaw04.LineindexInverse', WHERE WHAT IT READS IS OF BULK AT MOST 1048576: true; the input reads as it did. -/
def lineindexInverseUptoRow : OpenClaim := { program := "ythbcnpoldoklbaa", sum := "d397b9b878aff03125bf5ba2f95ffa99bcb3799cb7400beefcc30e8c5fd49f98", func := "emendate/emendatelaw04.LineindexInverse", spec := "lineindexInverse", unfollowed := true, recurses := true, apart := false, narrowed := true }
def LineindexInverseUptoSaid : Prop := lineindexInverseUptoRow.holds Try.pinned (OpenSpec.upto lineindexInverseSpec)

/-- 'emendatelaw04.LineindexOrder', WHERE WHAT IT READS IS OF BULK AT MOST 1048576: true; the input reads as it did. -/
def lineindexOrderUptoRow : OpenClaim := { program := "ythbcnpoldoklbaa", sum := "d397b9b878aff03125bf5ba2f95ffa99bcb3799cb7400beefcc30e8c5fd49f98", func := "emendate/emendatelaw04.LineindexOrder", spec := "lineindexOrder", unfollowed := true, recurses := true, apart := false, narrowed := true }
def LineindexOrderUptoSaid : Prop := lineindexOrderUptoRow.holds Try.pinned (OpenSpec.upto lineindexOrderSpec)

/-- 'emendatelaw04.LineindexPositions', WHERE WHAT IT READS IS OF BULK AT MOST 1048576: true; the input reads as it did. -/
def lineindexPositionsUptoRow : OpenClaim := { program := "ythbcnpoldoklbaa", sum := "d397b9b878aff03125bf5ba2f95ffa99bcb3799cb7400beefcc30e8c5fd49f98", func := "emendate/emendatelaw04.LineindexPositions", spec := "lineindexPositions", unfollowed := true, recurses := true, apart := false, narrowed := true }
def LineindexPositionsUptoSaid : Prop := lineindexPositionsUptoRow.holds Try.pinned (OpenSpec.upto lineindexPositionsSpec)

/-- 'emendatelaw04.LineindexOffsets', WHERE WHAT IT READS IS OF BULK AT MOST 1048576: true; the input reads as it did. -/
def lineindexOffsetsUptoRow : OpenClaim := { program := "ythbcnpoldoklbaa", sum := "d397b9b878aff03125bf5ba2f95ffa99bcb3799cb7400beefcc30e8c5fd49f98", func := "emendate/emendatelaw04.LineindexOffsets", spec := "lineindexOffsets", unfollowed := true, recurses := true, apart := false, narrowed := true }
def LineindexOffsetsUptoSaid : Prop := lineindexOffsetsUptoRow.holds Try.pinned (OpenSpec.upto lineindexOffsetsSpec)

/-- 'emendatelaw04.LineindexJoin', WHERE WHAT IT READS IS OF BULK AT MOST 1048576: true; the input reads as it did. -/
def lineindexJoinUptoRow : OpenClaim := { program := "ythbcnpoldoklbaa", sum := "d397b9b878aff03125bf5ba2f95ffa99bcb3799cb7400beefcc30e8c5fd49f98", func := "emendate/emendatelaw04.LineindexJoin", spec := "lineindexJoin", unfollowed := true, recurses := true, apart := false, narrowed := true }
def LineindexJoinUptoSaid : Prop := lineindexJoinUptoRow.holds Try.pinned (OpenSpec.upto lineindexJoinSpec)

/-- 'emendatelaw04.LineindexInsert', WHERE WHAT IT READS IS OF BULK AT MOST 1048576: true; the input reads as it did. -/
def lineindexInsertUptoRow : OpenClaim := { program := "ythbcnpoldoklbaa", sum := "d397b9b878aff03125bf5ba2f95ffa99bcb3799cb7400beefcc30e8c5fd49f98", func := "emendate/emendatelaw04.LineindexInsert", spec := "lineindexInsert", unfollowed := true, recurses := true, apart := false, narrowed := true }
def LineindexInsertUptoSaid : Prop := lineindexInsertUptoRow.holds Try.pinned (OpenSpec.upto lineindexInsertSpec)

/-- 'emendatelaw04.LineindexUpdate', WHERE WHAT IT READS IS OF BULK AT MOST 1048576: true; the input reads as it did. -/
def lineindexUpdateUptoRow : OpenClaim := { program := "ythbcnpoldoklbaa", sum := "d397b9b878aff03125bf5ba2f95ffa99bcb3799cb7400beefcc30e8c5fd49f98", func := "emendate/emendatelaw04.LineindexUpdate", spec := "lineindexUpdate", unfollowed := true, recurses := true, apart := false, narrowed := true }
def LineindexUpdateUptoSaid : Prop := lineindexUpdateUptoRow.holds Try.pinned (OpenSpec.upto lineindexUpdateSpec)

end Rows
end Go.Proofs.Ythbcnpoldoklbaa
