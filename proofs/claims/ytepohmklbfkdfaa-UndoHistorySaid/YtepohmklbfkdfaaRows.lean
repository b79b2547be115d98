/-
  No cell of these rows narrows 'for every input' (looked for: loops, veiled, ifaces, maps, wideKeys, modest, calm, conditions, laid).
  DERIVED. THE GIVEN ROWS OF THIS SEAT. 6 by the template 'for every input the law returns true; each argument reads behind the call as it read before'; 0 by the template 'total and deterministic' (their statements: YtepohmklbfkdfaaTotals.lean).
  GIVEN WITH THE SEED: the statements are not yours to turn. If you find one false, say at which input.
  Laid BY PROGRAM, IN A SANDBOX (cutbox-rows.mjs): the forced cells as the released guide's own fill.sh prints them over the translation 6ae09aec86fcfa44… (all of the seat's roots in one cut). By AI agents, Wed Nov 11 2026. No macro, syntax, notation, axiom, sorry.
-/
import Derived.Test.YtepohmklbfkdfaaChecked
import GoSem.Claim
import GoSem.ClaimJoined
import GoSem.ClaimMapViews
import Derived.JoinedTies
import Derived.KernelRfl
namespace Go.Proofs.Ytepohmklbfkdfaa
/- THE CELL 'sum', in the pinned program and in every row, IS THE sha256 OF THE DUMP (.gsa) THAT YtepohmklbfkdfaaProg.lean LOADS. Nothing in Lean hashes anything: it is a label: what it is worth is what the hold of that sum in a sandbox is worth. -/
noncomputable def Try.pinned : Pinned := { name := "ytepohmklbfkdfaa", sum := "6ae09aec86fcfa445ab572226532e6077cac6f82d1815e555af3fb7bc2d138f9", checked := Try.checked }
namespace Rows
def none {H : Type} : Left H := { results := [], args := [] }

/-- 'emendatelaw05.UndoHistory': WHATEVER THE INPUT: true; the input reads as it did. -/
def undoHistorySpec : ChangeSpec := { name := "undoHistory", fn := fun _ => fun
  | [d1, d2] => { results := [.lit (.bool true)], args := [d1, d2] }
  | _ => none }
def undoHistoryRow : OpenClaim := { program := "ytepohmklbfkdfaa", sum := "6ae09aec86fcfa445ab572226532e6077cac6f82d1815e555af3fb7bc2d138f9", func := "emendate/emendatelaw05.UndoHistory", spec := "undoHistory", apart := false }
def UndoHistorySaid : Prop := undoHistoryRow.holds Try.pinned (OpenSpec.ofChange undoHistorySpec)

/-- ITS FALSE NEIGHBOUR: 'it returns false'. Refute it at one input. -/
def undoHistoryWrong : ChangeSpec := { name := "undoHistory", fn := fun _ => fun
  | [d1, d2] => { results := [.lit (.bool false)], args := [d1, d2] }
  | _ => none }
def UndoHistoryWrongFalsely : Prop := undoHistoryRow.holds Try.pinned (OpenSpec.ofChange undoHistoryWrong)

/-- 'emendatelaw05.UndoReturnsAppliedEdit': WHATEVER THE INPUT: true; the input reads as it did. -/
def undoReturnsAppliedEditSpec : ChangeSpec := { name := "undoReturnsAppliedEdit", fn := fun _ => fun
  | [d1, d2] => { results := [.lit (.bool true)], args := [d1, d2] }
  | _ => none }
def undoReturnsAppliedEditRow : OpenClaim := { program := "ytepohmklbfkdfaa", sum := "6ae09aec86fcfa445ab572226532e6077cac6f82d1815e555af3fb7bc2d138f9", func := "emendate/emendatelaw05.UndoReturnsAppliedEdit", spec := "undoReturnsAppliedEdit", apart := false }
def UndoReturnsAppliedEditSaid : Prop := undoReturnsAppliedEditRow.holds Try.pinned (OpenSpec.ofChange undoReturnsAppliedEditSpec)

/-- ITS FALSE NEIGHBOUR: 'it returns false'. Refute it at one input. -/
def undoReturnsAppliedEditWrong : ChangeSpec := { name := "undoReturnsAppliedEdit", fn := fun _ => fun
  | [d1, d2] => { results := [.lit (.bool false)], args := [d1, d2] }
  | _ => none }
def UndoReturnsAppliedEditWrongFalsely : Prop := undoReturnsAppliedEditRow.holds Try.pinned (OpenSpec.ofChange undoReturnsAppliedEditWrong)

/-- 'emendatelaw05.UndoRestores': WHATEVER THE INPUT: true; the input reads as it did. -/
def undoRestoresSpec : ChangeSpec := { name := "undoRestores", fn := fun _ => fun
  | [d1, d2, d3] => { results := [.lit (.bool true)], args := [d1, d2, d3] }
  | _ => none }
def undoRestoresRow : OpenClaim := { program := "ytepohmklbfkdfaa", sum := "6ae09aec86fcfa445ab572226532e6077cac6f82d1815e555af3fb7bc2d138f9", func := "emendate/emendatelaw05.UndoRestores", spec := "undoRestores", apart := false }
def UndoRestoresSaid : Prop := undoRestoresRow.holds Try.pinned (OpenSpec.ofChange undoRestoresSpec)

/-- ITS FALSE NEIGHBOUR: 'it returns false'. Refute it at one input. -/
def undoRestoresWrong : ChangeSpec := { name := "undoRestores", fn := fun _ => fun
  | [d1, d2, d3] => { results := [.lit (.bool false)], args := [d1, d2, d3] }
  | _ => none }
def UndoRestoresWrongFalsely : Prop := undoRestoresRow.holds Try.pinned (OpenSpec.ofChange undoRestoresWrong)

/-- 'emendatelaw05.UndoAll': WHATEVER THE INPUT: true; the input reads as it did. -/
def undoAllSpec : ChangeSpec := { name := "undoAll", fn := fun _ => fun
  | [d1, d2] => { results := [.lit (.bool true)], args := [d1, d2] }
  | _ => none }
def undoAllRow : OpenClaim := { program := "ytepohmklbfkdfaa", sum := "6ae09aec86fcfa445ab572226532e6077cac6f82d1815e555af3fb7bc2d138f9", func := "emendate/emendatelaw05.UndoAll", spec := "undoAll", apart := false }
def UndoAllSaid : Prop := undoAllRow.holds Try.pinned (OpenSpec.ofChange undoAllSpec)

/-- ITS FALSE NEIGHBOUR: 'it returns false'. Refute it at one input. -/
def undoAllWrong : ChangeSpec := { name := "undoAll", fn := fun _ => fun
  | [d1, d2] => { results := [.lit (.bool false)], args := [d1, d2] }
  | _ => none }
def UndoAllWrongFalsely : Prop := undoAllRow.holds Try.pinned (OpenSpec.ofChange undoAllWrong)

/-- 'emendatelaw05.UndoDiscardsRedo': WHATEVER THE INPUT: true; the input reads as it did. -/
def undoDiscardsRedoSpec : ChangeSpec := { name := "undoDiscardsRedo", fn := fun _ => fun
  | [d1, d2, d3] => { results := [.lit (.bool true)], args := [d1, d2, d3] }
  | _ => none }
def undoDiscardsRedoRow : OpenClaim := { program := "ytepohmklbfkdfaa", sum := "6ae09aec86fcfa445ab572226532e6077cac6f82d1815e555af3fb7bc2d138f9", func := "emendate/emendatelaw05.UndoDiscardsRedo", spec := "undoDiscardsRedo", apart := false }
def UndoDiscardsRedoSaid : Prop := undoDiscardsRedoRow.holds Try.pinned (OpenSpec.ofChange undoDiscardsRedoSpec)

/-- ITS FALSE NEIGHBOUR: 'it returns false'. Refute it at one input. -/
def undoDiscardsRedoWrong : ChangeSpec := { name := "undoDiscardsRedo", fn := fun _ => fun
  | [d1, d2, d3] => { results := [.lit (.bool false)], args := [d1, d2, d3] }
  | _ => none }
def UndoDiscardsRedoWrongFalsely : Prop := undoDiscardsRedoRow.holds Try.pinned (OpenSpec.ofChange undoDiscardsRedoWrong)

/-- 'emendatelaw05.UndoLimit': WHATEVER THE INPUT: true; the input reads as it did. -/
def undoLimitSpec : ChangeSpec := { name := "undoLimit", fn := fun _ => fun
  | [d1, d2, d3] => { results := [.lit (.bool true)], args := [d1, d2, d3] }
  | _ => none }
def undoLimitRow : OpenClaim := { program := "ytepohmklbfkdfaa", sum := "6ae09aec86fcfa445ab572226532e6077cac6f82d1815e555af3fb7bc2d138f9", func := "emendate/emendatelaw05.UndoLimit", spec := "undoLimit", apart := false }
def UndoLimitSaid : Prop := undoLimitRow.holds Try.pinned (OpenSpec.ofChange undoLimitSpec)

/-- ITS FALSE NEIGHBOUR: 'it returns false'. Refute it at one input. -/
def undoLimitWrong : ChangeSpec := { name := "undoLimit", fn := fun _ => fun
  | [d1, d2, d3] => { results := [.lit (.bool false)], args := [d1, d2, d3] }
  | _ => none }
def UndoLimitWrongFalsely : Prop := undoLimitRow.holds Try.pinned (OpenSpec.ofChange undoLimitWrong)

/- THE SECOND FORM. 'bulk': how many values and letters a reading holds, each counted each time it is reached (what is shared counts as often as it is met; a slice's spare places count too). A statement '..UptoSaid' is the law's where the arguments, and the package variables that the reading takes, are together of bulk at most 1048576: NARROWER than '..Said'. Prove '..Said' where nothing that the law and all that it calls make is longer than what came in: it says more and counts as full. Else prove '..UptoSaid'. A law counts once. -/
mutual
def uptoBulk {H : Type} : DataW H → Nat
  | .lit (.string bytes) => bytes.length + 1
  | .lit _ => 1
  | .nil => 1
  | .ptr d => uptoBulk d + 1
  | .slice elems spare => uptoBulkAll elems + uptoBulkAll spare + 1
  | .agg parts => uptoBulkAll parts + 1
  | .iface _ d => uptoBulk d + 1
  | .map entries => uptoBulkEntries entries + 1
  | .held _ => 1
def uptoBulkAll {H : Type} : List (DataW H) → Nat
  | [] => 0
  | d :: r => uptoBulk d + uptoBulkAll r
def uptoBulkEntries {H : Type} : List (Lit × DataW H) → Nat
  | [] => 0
  | x :: r => uptoBulkEntry x + uptoBulkEntries r
def uptoBulkEntry {H : Type} : Lit × DataW H → Nat
  | (.string bytes, d) => bytes.length + uptoBulk d + 1
  | (_, d) => uptoBulk d + 1
 end
def uptoSmall : (H : Type) → List (DataW H) → Bool := fun _ ds => decide (uptoBulkAll ds ≤ 1048576)
def OpenSpec.upto (s : _root_.Go.ChangeSpec) : _root_.Go.OpenSpec := { _root_.Go.OpenSpec.ofChange s with cond := some uptoSmall }

/-- 'emendatelaw05.UndoHistory', WHERE WHAT IT READS IS OF BULK AT MOST 1048576: true; the input reads as it did. -/
def undoHistoryUptoRow : OpenClaim := { program := "ytepohmklbfkdfaa", sum := "6ae09aec86fcfa445ab572226532e6077cac6f82d1815e555af3fb7bc2d138f9", func := "emendate/emendatelaw05.UndoHistory", spec := "undoHistory", apart := false, narrowed := true }
def UndoHistoryUptoSaid : Prop := undoHistoryUptoRow.holds Try.pinned (OpenSpec.upto undoHistorySpec)

/-- 'emendatelaw05.UndoReturnsAppliedEdit', WHERE WHAT IT READS IS OF BULK AT MOST 1048576: true; the input reads as it did. -/
def undoReturnsAppliedEditUptoRow : OpenClaim := { program := "ytepohmklbfkdfaa", sum := "6ae09aec86fcfa445ab572226532e6077cac6f82d1815e555af3fb7bc2d138f9", func := "emendate/emendatelaw05.UndoReturnsAppliedEdit", spec := "undoReturnsAppliedEdit", apart := false, narrowed := true }
def UndoReturnsAppliedEditUptoSaid : Prop := undoReturnsAppliedEditUptoRow.holds Try.pinned (OpenSpec.upto undoReturnsAppliedEditSpec)

/-- 'emendatelaw05.UndoRestores', WHERE WHAT IT READS IS OF BULK AT MOST 1048576: true; the input reads as it did. -/
def undoRestoresUptoRow : OpenClaim := { program := "ytepohmklbfkdfaa", sum := "6ae09aec86fcfa445ab572226532e6077cac6f82d1815e555af3fb7bc2d138f9", func := "emendate/emendatelaw05.UndoRestores", spec := "undoRestores", apart := false, narrowed := true }
def UndoRestoresUptoSaid : Prop := undoRestoresUptoRow.holds Try.pinned (OpenSpec.upto undoRestoresSpec)

/-- 'emendatelaw05.UndoAll', WHERE WHAT IT READS IS OF BULK AT MOST 1048576: true; the input reads as it did. -/
def undoAllUptoRow : OpenClaim := { program := "ytepohmklbfkdfaa", sum := "6ae09aec86fcfa445ab572226532e6077cac6f82d1815e555af3fb7bc2d138f9", func := "emendate/emendatelaw05.UndoAll", spec := "undoAll", apart := false, narrowed := true }
def UndoAllUptoSaid : Prop := undoAllUptoRow.holds Try.pinned (OpenSpec.upto undoAllSpec)

/-- 'emendatelaw05.UndoDiscardsRedo', WHERE WHAT IT READS IS OF BULK AT MOST 1048576: true; the input reads as it did. -/
def undoDiscardsRedoUptoRow : OpenClaim := { program := "ytepohmklbfkdfaa", sum := "6ae09aec86fcfa445ab572226532e6077cac6f82d1815e555af3fb7bc2d138f9", func := "emendate/emendatelaw05.UndoDiscardsRedo", spec := "undoDiscardsRedo", apart := false, narrowed := true }
def UndoDiscardsRedoUptoSaid : Prop := undoDiscardsRedoUptoRow.holds Try.pinned (OpenSpec.upto undoDiscardsRedoSpec)

/-- 'emendatelaw05.UndoLimit', WHERE WHAT IT READS IS OF BULK AT MOST 1048576: true; the input reads as it did. -/
def undoLimitUptoRow : OpenClaim := { program := "ytepohmklbfkdfaa", sum := "6ae09aec86fcfa445ab572226532e6077cac6f82d1815e555af3fb7bc2d138f9", func := "emendate/emendatelaw05.UndoLimit", spec := "undoLimit", apart := false, narrowed := true }
def UndoLimitUptoSaid : Prop := undoLimitUptoRow.holds Try.pinned (OpenSpec.upto undoLimitSpec)

end Rows
end Go.Proofs.Ytepohmklbfkdfaa
