/-
  No cell of these rows narrows 'for every input' (looked for: loops, veiled, ifaces, maps, wideKeys, modest, calm, conditions, laid).
  DERIVED. THE GIVEN ROWS OF THIS SEAT. 5 by the template 'for every input the law returns true; each argument reads behind the call as it read before'; 0 by the template 'total and deterministic' (their statements: YtnechjedhpcffaaTotals.lean).
  GIVEN WITH THE SEED: the statements are not yours to turn. If you find one false, say at which input.
  Laid BY PROGRAM, IN A SANDBOX (cutbox-rows.mjs): the forced cells as the released guide's own fill.sh prints them over the translation 461aff31f1f57a30… (all of the seat's roots in one cut). By AI agents, Wed Nov 11 2026. No macro, syntax, notation, axiom, sorry.
-/
import Derived.Test.YtnechjedhpcffaaChecked
import GoSem.Claim
import GoSem.ClaimJoined
import GoSem.ClaimMapViews
import Derived.JoinedTies
import Derived.KernelRfl
namespace Go.Proofs.Ytnechjedhpcffaa
/- THE CELL 'sum', in the pinned program and in every row, IS THE sha256 OF THE DUMP (.gsa) THAT YtnechjedhpcffaaProg.lean LOADS. Nothing in Lean hashes anything: it is a label: what it is worth is what the hold of that sum in a sandbox is worth. -/
noncomputable def Try.pinned : Pinned := { name := "ytnechjedhpcffaa", sum := "461aff31f1f57a30a454a2f7fae7903928fcc95e9ab424a408f92acee762c129", checked := Try.checked }
namespace Rows
def none {H : Type} : Left H := { results := [], args := [] }

/-- 'emendatelaw28.PqueueSorts': WHATEVER THE INPUT: true; the input reads as it did. -/
def pqueueSortsSpec : ChangeSpec := { name := "pqueueSorts", fn := fun _ => fun
  | [d] => { results := [.lit (.bool true)], args := [d] }
  | _ => none }
def pqueueSortsRow : OpenClaim := { program := "ytnechjedhpcffaa", sum := "461aff31f1f57a30a454a2f7fae7903928fcc95e9ab424a408f92acee762c129", func := "emendate/emendatelaw28.PqueueSorts", spec := "pqueueSorts", unfollowed := true, recurses := true, apart := false }
def PqueueSortsSaid : Prop := pqueueSortsRow.holds Try.pinned (OpenSpec.ofChange pqueueSortsSpec)

/-- ITS FALSE NEIGHBOUR: 'it returns false'. Refute it at one input. -/
def pqueueSortsWrong : ChangeSpec := { name := "pqueueSorts", fn := fun _ => fun
  | [d] => { results := [.lit (.bool false)], args := [d] }
  | _ => none }
def PqueueSortsWrongFalsely : Prop := pqueueSortsRow.holds Try.pinned (OpenSpec.ofChange pqueueSortsWrong)

/-- 'emendatelaw28.PqueueUpdates': WHATEVER THE INPUT: true; the input reads as it did. -/
def pqueueUpdatesSpec : ChangeSpec := { name := "pqueueUpdates", fn := fun _ => fun
  | [d1, d2, d3] => { results := [.lit (.bool true)], args := [d1, d2, d3] }
  | _ => none }
def pqueueUpdatesRow : OpenClaim := { program := "ytnechjedhpcffaa", sum := "461aff31f1f57a30a454a2f7fae7903928fcc95e9ab424a408f92acee762c129", func := "emendate/emendatelaw28.PqueueUpdates", spec := "pqueueUpdates", unfollowed := true, recurses := true, apart := false }
def PqueueUpdatesSaid : Prop := pqueueUpdatesRow.holds Try.pinned (OpenSpec.ofChange pqueueUpdatesSpec)

/-- ITS FALSE NEIGHBOUR: 'it returns false'. Refute it at one input. -/
def pqueueUpdatesWrong : ChangeSpec := { name := "pqueueUpdates", fn := fun _ => fun
  | [d1, d2, d3] => { results := [.lit (.bool false)], args := [d1, d2, d3] }
  | _ => none }
def PqueueUpdatesWrongFalsely : Prop := pqueueUpdatesRow.holds Try.pinned (OpenSpec.ofChange pqueueUpdatesWrong)

/-- 'emendatelaw28.PqueuePlays': WHATEVER THE INPUT: true; the input reads as it did. -/
def pqueuePlaysSpec : ChangeSpec := { name := "pqueuePlays", fn := fun _ => fun
  | [d] => { results := [.lit (.bool true)], args := [d] }
  | _ => none }
def pqueuePlaysRow : OpenClaim := { program := "ytnechjedhpcffaa", sum := "461aff31f1f57a30a454a2f7fae7903928fcc95e9ab424a408f92acee762c129", func := "emendate/emendatelaw28.PqueuePlays", spec := "pqueuePlays", unfollowed := true, recurses := true, apart := false }
def PqueuePlaysSaid : Prop := pqueuePlaysRow.holds Try.pinned (OpenSpec.ofChange pqueuePlaysSpec)

/-- ITS FALSE NEIGHBOUR: 'it returns false'. Refute it at one input. -/
def pqueuePlaysWrong : ChangeSpec := { name := "pqueuePlays", fn := fun _ => fun
  | [d] => { results := [.lit (.bool false)], args := [d] }
  | _ => none }
def PqueuePlaysWrongFalsely : Prop := pqueuePlaysRow.holds Try.pinned (OpenSpec.ofChange pqueuePlaysWrong)

/-- 'emendatelaw28.PqueuePeeks': WHATEVER THE INPUT: true; the input reads as it did. -/
def pqueuePeeksSpec : ChangeSpec := { name := "pqueuePeeks", fn := fun _ => fun
  | [d] => { results := [.lit (.bool true)], args := [d] }
  | _ => none }
def pqueuePeeksRow : OpenClaim := { program := "ytnechjedhpcffaa", sum := "461aff31f1f57a30a454a2f7fae7903928fcc95e9ab424a408f92acee762c129", func := "emendate/emendatelaw28.PqueuePeeks", spec := "pqueuePeeks", unfollowed := true, recurses := true, apart := false }
def PqueuePeeksSaid : Prop := pqueuePeeksRow.holds Try.pinned (OpenSpec.ofChange pqueuePeeksSpec)

/-- ITS FALSE NEIGHBOUR: 'it returns false'. Refute it at one input. -/
def pqueuePeeksWrong : ChangeSpec := { name := "pqueuePeeks", fn := fun _ => fun
  | [d] => { results := [.lit (.bool false)], args := [d] }
  | _ => none }
def PqueuePeeksWrongFalsely : Prop := pqueuePeeksRow.holds Try.pinned (OpenSpec.ofChange pqueuePeeksWrong)

/-- 'emendatelaw28.PqueueMerges': WHATEVER THE INPUT: true; the input reads as it did. -/
def pqueueMergesSpec : ChangeSpec := { name := "pqueueMerges", fn := fun _ => fun
  | [d1, d2] => { results := [.lit (.bool true)], args := [d1, d2] }
  | _ => none }
def pqueueMergesRow : OpenClaim := { program := "ytnechjedhpcffaa", sum := "461aff31f1f57a30a454a2f7fae7903928fcc95e9ab424a408f92acee762c129", func := "emendate/emendatelaw28.PqueueMerges", spec := "pqueueMerges", unfollowed := true, recurses := true, apart := false }
def PqueueMergesSaid : Prop := pqueueMergesRow.holds Try.pinned (OpenSpec.ofChange pqueueMergesSpec)

/-- ITS FALSE NEIGHBOUR: 'it returns false'. Refute it at one input. -/
def pqueueMergesWrong : ChangeSpec := { name := "pqueueMerges", fn := fun _ => fun
  | [d1, d2] => { results := [.lit (.bool false)], args := [d1, d2] }
  | _ => none }
def PqueueMergesWrongFalsely : Prop := pqueueMergesRow.holds Try.pinned (OpenSpec.ofChange pqueueMergesWrong)

/- THE SECOND FORM. 'bulk': how many values and letters a reading holds, each counted each time it is reached (what is shared counts as often as it is met; a slice's spare places count too). A statement '..UptoSaid' is the law's where the arguments, and the package variables that the reading takes, are together of bulk at most 1048576: NARROWER than '..Said'. Prove '..Said' where nothing that the law and all that it calls make is longer than what came in: it says more and counts as full. Else prove '..UptoSaid'. A law counts once. -/
mutual
def uptoBulk {H : Type} : DataW H → Nat
  | .lit (.string bytes) => bytes.length + 1
  | .lit _ => 1
  | .nil => 1
  | .ptr d => uptoBulk d + 1
  | .slice elems spare => uptoBulkAll elems + uptoBulkAll spare + 1
  | .agg parts => uptoBulkAll parts + 1
  | .iface _ d => uptoBulk d + 1
  | .map entries => uptoBulkEntries entries + 1
  | .held _ => 1
def uptoBulkAll {H : Type} : List (DataW H) → Nat
  | [] => 0
  | d :: r => uptoBulk d + uptoBulkAll r
def uptoBulkEntries {H : Type} : List (Lit × DataW H) → Nat
  | [] => 0
  | x :: r => uptoBulkEntry x + uptoBulkEntries r
def uptoBulkEntry {H : Type} : Lit × DataW H → Nat
  | (.string bytes, d) => bytes.length + uptoBulk d + 1
  | (_, d) => uptoBulk d + 1
 end
def uptoSmall : (H : Type) → List (DataW H) → Bool := fun _ ds => decide (uptoBulkAll ds ≤ 1048576)
def OpenSpec.upto (s : _root_.Go.ChangeSpec) : _root_.Go.OpenSpec := { _root_.Go.OpenSpec.ofChange s with cond := some uptoSmall }

/-- 'emendatelaw28.PqueueSorts', WHERE WHAT IT READS IS OF BULK AT MOST 1048576: true; the input reads as it did. -/
def pqueueSortsUptoRow : OpenClaim := { program := "ytnechjedhpcffaa", sum := "461aff31f1f57a30a454a2f7fae7903928fcc95e9ab424a408f92acee762c129", func := "emendate/emendatelaw28.PqueueSorts", spec := "pqueueSorts", unfollowed := true, recurses := true, apart := false, narrowed := true }
def PqueueSortsUptoSaid : Prop := pqueueSortsUptoRow.holds Try.pinned (OpenSpec.upto pqueueSortsSpec)

/-- 'emendatelaw28.PqueueUpdates', WHERE WHAT IT READS IS OF BULK AT MOST 1048576: true; the input reads as it did. -/
def pqueueUpdatesUptoRow : OpenClaim := { program := "ytnechjedhpcffaa", sum := "461aff31f1f57a30a454a2f7fae7903928fcc95e9ab424a408f92acee762c129", func := "emendate/emendatelaw28.PqueueUpdates", spec := "pqueueUpdates", unfollowed := true, recurses := true, apart := false, narrowed := true }
def PqueueUpdatesUptoSaid : Prop := pqueueUpdatesUptoRow.holds Try.pinned (OpenSpec.upto pqueueUpdatesSpec)

/-- 'emendatelaw28.PqueuePlays', WHERE WHAT IT READS IS OF BULK AT MOST 1048576: true; the input reads as it did. -/
def pqueuePlaysUptoRow : OpenClaim := { program := "ytnechjedhpcffaa", sum := "461aff31f1f57a30a454a2f7fae7903928fcc95e9ab424a408f92acee762c129", func := "emendate/emendatelaw28.PqueuePlays", spec := "pqueuePlays", unfollowed := true, recurses := true, apart := false, narrowed := true }
def PqueuePlaysUptoSaid : Prop := pqueuePlaysUptoRow.holds Try.pinned (OpenSpec.upto pqueuePlaysSpec)

/-- 'emendatelaw28.PqueuePeeks', WHERE WHAT IT READS IS OF BULK AT MOST 1048576: true; the input reads as it did. -/
def pqueuePeeksUptoRow : OpenClaim := { program := "ytnechjedhpcffaa", sum := "461aff31f1f57a30a454a2f7fae7903928fcc95e9ab424a408f92acee762c129", func := "emendate/emendatelaw28.PqueuePeeks", spec := "pqueuePeeks", unfollowed := true, recurses := true, apart := false, narrowed := true }
def PqueuePeeksUptoSaid : Prop := pqueuePeeksUptoRow.holds Try.pinned (OpenSpec.upto pqueuePeeksSpec)

/-- 'emendatelaw28.PqueueMerges', WHERE WHAT IT READS IS OF BULK AT MOST 1048576: true; the input reads as it did. -/
def pqueueMergesUptoRow : OpenClaim := { program := "ytnechjedhpcffaa", sum := "461aff31f1f57a30a454a2f7fae7903928fcc95e9ab424a408f92acee762c129", func := "emendate/emendatelaw28.PqueueMerges", spec := "pqueueMerges", unfollowed := true, recurses := true, apart := false, narrowed := true }
def PqueueMergesUptoSaid : Prop := pqueueMergesUptoRow.holds Try.pinned (OpenSpec.upto pqueueMergesSpec)

end Rows
end Go.Proofs.Ytnechjedhpcffaa
