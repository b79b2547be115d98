/-
  No cell of these rows narrows 'for every input' (looked for: loops, veiled, ifaces, maps, wideKeys, modest, calm, conditions, laid).
  DERIVED. THE GIVEN ROWS OF THIS SEAT. 9 by the template 'for every input the law returns true; each argument reads behind the call as it read before'; 0 by the template 'total and deterministic' (their statements: YtocihnncfpmbnaaTotals.lean).
  GIVEN WITH THE SEED: the statements are not yours to turn. If you find one false, say at which input.
  Laid BY PROGRAM, IN A SANDBOX (cutbox-rows.mjs): the forced cells as the released guide's own fill.sh prints them over the translation 899f5a91c3ce9dc1… (all of the seat's roots in one cut). By AI agents, Wed Nov 11 2026. No macro, syntax, notation, axiom, sorry.
-/
import Derived.Test.YtocihnncfpmbnaaChecked
import GoSem.Claim
import GoSem.ClaimJoined
import GoSem.ClaimMapViews
import Derived.JoinedTies
import Derived.KernelRfl
namespace Go.Proofs.Ytocihnncfpmbnaa
/- THE CELL 'sum', in the pinned program and in every row, IS THE sha256 OF THE DUMP (.gsa) THAT YtocihnncfpmbnaaProg.lean LOADS. Nothing in Lean hashes anything: it is a label: what it is worth is what the hold of that sum in a sandbox is worth. -/
noncomputable def Try.pinned : Pinned := { name := "ytocihnncfpmbnaa", sum := "899f5a91c3ce9dc1fea56287f9749ad9bca2176ae3c7a91ab65a4dbe603f94e6", checked := Try.checked }
namespace Rows
def none {H : Type} : Left H := { results := [], args := [] }

/-- 'emendatelaw03.TexteditApplyMatchesReference': WHATEVER THE INPUT: true; the input reads as it did. -/
def texteditApplyMatchesReferenceSpec : ChangeSpec := { name := "texteditApplyMatchesReference", fn := fun _ => fun
  | [d1, d2] => { results := [.lit (.bool true)], args := [d1, d2] }
  | _ => none }
def texteditApplyMatchesReferenceRow : OpenClaim := { program := "ytocihnncfpmbnaa", sum := "899f5a91c3ce9dc1fea56287f9749ad9bca2176ae3c7a91ab65a4dbe603f94e6", func := "emendate/emendatelaw03.TexteditApplyMatchesReference", spec := "texteditApplyMatchesReference", unfollowed := true, recurses := true, apart := false }
def TexteditApplyMatchesReferenceSaid : Prop := texteditApplyMatchesReferenceRow.holds Try.pinned (OpenSpec.ofChange texteditApplyMatchesReferenceSpec)

/-- ITS FALSE NEIGHBOUR: 'it returns false'. Refute it at one input. -/
def texteditApplyMatchesReferenceWrong : ChangeSpec := { name := "texteditApplyMatchesReference", fn := fun _ => fun
  | [d1, d2] => { results := [.lit (.bool false)], args := [d1, d2] }
  | _ => none }
def TexteditApplyMatchesReferenceWrongFalsely : Prop := texteditApplyMatchesReferenceRow.holds Try.pinned (OpenSpec.ofChange texteditApplyMatchesReferenceWrong)

/-- 'emendatelaw03.TexteditApplyAllMatchesReference': WHATEVER THE INPUT: true; the input reads as it did. -/
def texteditApplyAllMatchesReferenceSpec : ChangeSpec := { name := "texteditApplyAllMatchesReference", fn := fun _ => fun
  | [d1, d2] => { results := [.lit (.bool true)], args := [d1, d2] }
  | _ => none }
def texteditApplyAllMatchesReferenceRow : OpenClaim := { program := "ytocihnncfpmbnaa", sum := "899f5a91c3ce9dc1fea56287f9749ad9bca2176ae3c7a91ab65a4dbe603f94e6", func := "emendate/emendatelaw03.TexteditApplyAllMatchesReference", spec := "texteditApplyAllMatchesReference", unfollowed := true, recurses := true, apart := false }
def TexteditApplyAllMatchesReferenceSaid : Prop := texteditApplyAllMatchesReferenceRow.holds Try.pinned (OpenSpec.ofChange texteditApplyAllMatchesReferenceSpec)

/-- ITS FALSE NEIGHBOUR: 'it returns false'. Refute it at one input. -/
def texteditApplyAllMatchesReferenceWrong : ChangeSpec := { name := "texteditApplyAllMatchesReference", fn := fun _ => fun
  | [d1, d2] => { results := [.lit (.bool false)], args := [d1, d2] }
  | _ => none }
def TexteditApplyAllMatchesReferenceWrongFalsely : Prop := texteditApplyAllMatchesReferenceRow.holds Try.pinned (OpenSpec.ofChange texteditApplyAllMatchesReferenceWrong)

/-- 'emendatelaw03.TexteditInvertRestores': WHATEVER THE INPUT: true; the input reads as it did. -/
def texteditInvertRestoresSpec : ChangeSpec := { name := "texteditInvertRestores", fn := fun _ => fun
  | [d1, d2] => { results := [.lit (.bool true)], args := [d1, d2] }
  | _ => none }
def texteditInvertRestoresRow : OpenClaim := { program := "ytocihnncfpmbnaa", sum := "899f5a91c3ce9dc1fea56287f9749ad9bca2176ae3c7a91ab65a4dbe603f94e6", func := "emendate/emendatelaw03.TexteditInvertRestores", spec := "texteditInvertRestores", unfollowed := true, recurses := true, apart := false }
def TexteditInvertRestoresSaid : Prop := texteditInvertRestoresRow.holds Try.pinned (OpenSpec.ofChange texteditInvertRestoresSpec)

/-- ITS FALSE NEIGHBOUR: 'it returns false'. Refute it at one input. -/
def texteditInvertRestoresWrong : ChangeSpec := { name := "texteditInvertRestores", fn := fun _ => fun
  | [d1, d2] => { results := [.lit (.bool false)], args := [d1, d2] }
  | _ => none }
def TexteditInvertRestoresWrongFalsely : Prop := texteditInvertRestoresRow.holds Try.pinned (OpenSpec.ofChange texteditInvertRestoresWrong)

/-- 'emendatelaw03.TexteditComposeEquivalent': WHATEVER THE INPUT: true; the input reads as it did. -/
def texteditComposeEquivalentSpec : ChangeSpec := { name := "texteditComposeEquivalent", fn := fun _ => fun
  | [d1, d2] => { results := [.lit (.bool true)], args := [d1, d2] }
  | _ => none }
def texteditComposeEquivalentRow : OpenClaim := { program := "ytocihnncfpmbnaa", sum := "899f5a91c3ce9dc1fea56287f9749ad9bca2176ae3c7a91ab65a4dbe603f94e6", func := "emendate/emendatelaw03.TexteditComposeEquivalent", spec := "texteditComposeEquivalent", unfollowed := true, recurses := true, apart := false }
def TexteditComposeEquivalentSaid : Prop := texteditComposeEquivalentRow.holds Try.pinned (OpenSpec.ofChange texteditComposeEquivalentSpec)

/-- ITS FALSE NEIGHBOUR: 'it returns false'. Refute it at one input. -/
def texteditComposeEquivalentWrong : ChangeSpec := { name := "texteditComposeEquivalent", fn := fun _ => fun
  | [d1, d2] => { results := [.lit (.bool false)], args := [d1, d2] }
  | _ => none }
def TexteditComposeEquivalentWrongFalsely : Prop := texteditComposeEquivalentRow.holds Try.pinned (OpenSpec.ofChange texteditComposeEquivalentWrong)

/-- 'emendatelaw03.TexteditComposeHull': WHATEVER THE INPUT: true; the input reads as it did. -/
def texteditComposeHullSpec : ChangeSpec := { name := "texteditComposeHull", fn := fun _ => fun
  | [d1, d2] => { results := [.lit (.bool true)], args := [d1, d2] }
  | _ => none }
def texteditComposeHullRow : OpenClaim := { program := "ytocihnncfpmbnaa", sum := "899f5a91c3ce9dc1fea56287f9749ad9bca2176ae3c7a91ab65a4dbe603f94e6", func := "emendate/emendatelaw03.TexteditComposeHull", spec := "texteditComposeHull", unfollowed := true, recurses := true, apart := false }
def TexteditComposeHullSaid : Prop := texteditComposeHullRow.holds Try.pinned (OpenSpec.ofChange texteditComposeHullSpec)

/-- ITS FALSE NEIGHBOUR: 'it returns false'. Refute it at one input. -/
def texteditComposeHullWrong : ChangeSpec := { name := "texteditComposeHull", fn := fun _ => fun
  | [d1, d2] => { results := [.lit (.bool false)], args := [d1, d2] }
  | _ => none }
def TexteditComposeHullWrongFalsely : Prop := texteditComposeHullRow.holds Try.pinned (OpenSpec.ofChange texteditComposeHullWrong)

/-- 'emendatelaw03.TexteditRebaseMatchesReference': WHATEVER THE INPUT: true; the input reads as it did. -/
def texteditRebaseMatchesReferenceSpec : ChangeSpec := { name := "texteditRebaseMatchesReference", fn := fun _ => fun
  | [d1, d2] => { results := [.lit (.bool true)], args := [d1, d2] }
  | _ => none }
def texteditRebaseMatchesReferenceRow : OpenClaim := { program := "ytocihnncfpmbnaa", sum := "899f5a91c3ce9dc1fea56287f9749ad9bca2176ae3c7a91ab65a4dbe603f94e6", func := "emendate/emendatelaw03.TexteditRebaseMatchesReference", spec := "texteditRebaseMatchesReference", unfollowed := true, recurses := true, apart := false }
def TexteditRebaseMatchesReferenceSaid : Prop := texteditRebaseMatchesReferenceRow.holds Try.pinned (OpenSpec.ofChange texteditRebaseMatchesReferenceSpec)

/-- ITS FALSE NEIGHBOUR: 'it returns false'. Refute it at one input. -/
def texteditRebaseMatchesReferenceWrong : ChangeSpec := { name := "texteditRebaseMatchesReference", fn := fun _ => fun
  | [d1, d2] => { results := [.lit (.bool false)], args := [d1, d2] }
  | _ => none }
def TexteditRebaseMatchesReferenceWrongFalsely : Prop := texteditRebaseMatchesReferenceRow.holds Try.pinned (OpenSpec.ofChange texteditRebaseMatchesReferenceWrong)

/-- 'emendatelaw03.TexteditRebaseCommutes': WHATEVER THE INPUT: true; the input reads as it did. -/
def texteditRebaseCommutesSpec : ChangeSpec := { name := "texteditRebaseCommutes", fn := fun _ => fun
  | [d1, d2, d3] => { results := [.lit (.bool true)], args := [d1, d2, d3] }
  | _ => none }
def texteditRebaseCommutesRow : OpenClaim := { program := "ytocihnncfpmbnaa", sum := "899f5a91c3ce9dc1fea56287f9749ad9bca2176ae3c7a91ab65a4dbe603f94e6", func := "emendate/emendatelaw03.TexteditRebaseCommutes", spec := "texteditRebaseCommutes", unfollowed := true, recurses := true, apart := false }
def TexteditRebaseCommutesSaid : Prop := texteditRebaseCommutesRow.holds Try.pinned (OpenSpec.ofChange texteditRebaseCommutesSpec)

/-- ITS FALSE NEIGHBOUR: 'it returns false'. Refute it at one input. -/
def texteditRebaseCommutesWrong : ChangeSpec := { name := "texteditRebaseCommutes", fn := fun _ => fun
  | [d1, d2, d3] => { results := [.lit (.bool false)], args := [d1, d2, d3] }
  | _ => none }
def TexteditRebaseCommutesWrongFalsely : Prop := texteditRebaseCommutesRow.holds Try.pinned (OpenSpec.ofChange texteditRebaseCommutesWrong)

/-- 'emendatelaw03.TexteditSplit': WHATEVER THE INPUT: true; the input reads as it did. -/
def texteditSplitSpec : ChangeSpec := { name := "texteditSplit", fn := fun _ => fun
  | [d1, d2] => { results := [.lit (.bool true)], args := [d1, d2] }
  | _ => none }
def texteditSplitRow : OpenClaim := { program := "ytocihnncfpmbnaa", sum := "899f5a91c3ce9dc1fea56287f9749ad9bca2176ae3c7a91ab65a4dbe603f94e6", func := "emendate/emendatelaw03.TexteditSplit", spec := "texteditSplit", unfollowed := true, recurses := true, apart := false }
def TexteditSplitSaid : Prop := texteditSplitRow.holds Try.pinned (OpenSpec.ofChange texteditSplitSpec)

/-- ITS FALSE NEIGHBOUR: 'it returns false'. Refute it at one input. -/
def texteditSplitWrong : ChangeSpec := { name := "texteditSplit", fn := fun _ => fun
  | [d1, d2] => { results := [.lit (.bool false)], args := [d1, d2] }
  | _ => none }
def TexteditSplitWrongFalsely : Prop := texteditSplitRow.holds Try.pinned (OpenSpec.ofChange texteditSplitWrong)

/-- 'emendatelaw03.TexteditInvertAllRestores': WHATEVER THE INPUT: true; the input reads as it did. -/
def texteditInvertAllRestoresSpec : ChangeSpec := { name := "texteditInvertAllRestores", fn := fun _ => fun
  | [d1, d2] => { results := [.lit (.bool true)], args := [d1, d2] }
  | _ => none }
def texteditInvertAllRestoresRow : OpenClaim := { program := "ytocihnncfpmbnaa", sum := "899f5a91c3ce9dc1fea56287f9749ad9bca2176ae3c7a91ab65a4dbe603f94e6", func := "emendate/emendatelaw03.TexteditInvertAllRestores", spec := "texteditInvertAllRestores", unfollowed := true, recurses := true, apart := false }
def TexteditInvertAllRestoresSaid : Prop := texteditInvertAllRestoresRow.holds Try.pinned (OpenSpec.ofChange texteditInvertAllRestoresSpec)

/-- ITS FALSE NEIGHBOUR: 'it returns false'. Refute it at one input. -/
def texteditInvertAllRestoresWrong : ChangeSpec := { name := "texteditInvertAllRestores", fn := fun _ => fun
  | [d1, d2] => { results := [.lit (.bool false)], args := [d1, d2] }
  | _ => none }
def TexteditInvertAllRestoresWrongFalsely : Prop := texteditInvertAllRestoresRow.holds Try.pinned (OpenSpec.ofChange texteditInvertAllRestoresWrong)

/- THE SECOND FORM. 'bulk': how many values and letters a reading holds, each counted each time it is reached (what is shared counts as often as it is met; a slice's spare places count too). A statement '..UptoSaid' is the law's where the arguments, and the package variables that the reading takes, are together of bulk at most 1048576: NARROWER than '..Said'. Prove '..Said' where nothing that the law and all that it calls make is longer than what came in: it says more and counts as full. Else prove '..UptoSaid'. A law counts once. -/
mutual
def uptoBulk {H : Type} : DataW H → Nat
  | .lit (.string bytes) => bytes.length + 1
  | .lit _ => 1
  | .nil => 1
  | .ptr d => uptoBulk d + 1
  | .slice elems spare => uptoBulkAll elems + uptoBulkAll spare + 1
  | .agg parts => uptoBulkAll parts + 1
  | .iface _ d => uptoBulk d + 1
  | .map entries => uptoBulkEntries entries + 1
  | .held _ => 1
def uptoBulkAll {H : Type} : List (DataW H) → Nat
  | [] => 0
  | d :: r => uptoBulk d + uptoBulkAll r
def uptoBulkEntries {H : Type} : List (Lit × DataW H) → Nat
  | [] => 0
  | x :: r => uptoBulkEntry x + uptoBulkEntries r
def uptoBulkEntry {H : Type} : Lit × DataW H → Nat
  | (.string bytes, d) => bytes.length + uptoBulk d + 1
  | (_, d) => uptoBulk d + 1
 end
def uptoSmall : (H : Type) → List (DataW H) → Bool := fun _ ds => decide (uptoBulkAll ds ≤ 1048576)
def OpenSpec.upto (s : _root_.Go.ChangeSpec) : _root_.Go.OpenSpec := { _root_.Go.OpenSpec.ofChange s with cond := some uptoSmall }

/-- 'emendatelaw03.TexteditApplyMatchesReference', WHERE WHAT IT READS IS OF BULK AT MOST 1048576: true; the input reads as it did. -/
def texteditApplyMatchesReferenceUptoRow : OpenClaim := { program := "ytocihnncfpmbnaa", sum := "899f5a91c3ce9dc1fea56287f9749ad9bca2176ae3c7a91ab65a4dbe603f94e6", func := "emendate/emendatelaw03.TexteditApplyMatchesReference", spec := "texteditApplyMatchesReference", unfollowed := true, recurses := true, apart := false, narrowed := true }
def TexteditApplyMatchesReferenceUptoSaid : Prop := texteditApplyMatchesReferenceUptoRow.holds Try.pinned (OpenSpec.upto texteditApplyMatchesReferenceSpec)

/-- 'emendatelaw03.TexteditApplyAllMatchesReference', WHERE WHAT IT READS IS OF BULK AT MOST 1048576: true; the input reads as it did. -/
def texteditApplyAllMatchesReferenceUptoRow : OpenClaim := { program := "ytocihnncfpmbnaa", sum := "899f5a91c3ce9dc1fea56287f9749ad9bca2176ae3c7a91ab65a4dbe603f94e6", func := "emendate/emendatelaw03.TexteditApplyAllMatchesReference", spec := "texteditApplyAllMatchesReference", unfollowed := true, recurses := true, apart := false, narrowed := true }
def TexteditApplyAllMatchesReferenceUptoSaid : Prop := texteditApplyAllMatchesReferenceUptoRow.holds Try.pinned (OpenSpec.upto texteditApplyAllMatchesReferenceSpec)

/-- 'emendatelaw03.TexteditInvertRestores', WHERE WHAT IT READS IS OF BULK AT MOST 1048576: true; the input reads as it did. -/
def texteditInvertRestoresUptoRow : OpenClaim := { program := "ytocihnncfpmbnaa", sum := "899f5a91c3ce9dc1fea56287f9749ad9bca2176ae3c7a91ab65a4dbe603f94e6", func := "emendate/emendatelaw03.TexteditInvertRestores", spec := "texteditInvertRestores", unfollowed := true, recurses := true, apart := false, narrowed := true }
def TexteditInvertRestoresUptoSaid : Prop := texteditInvertRestoresUptoRow.holds Try.pinned (OpenSpec.upto texteditInvertRestoresSpec)

/-- 'emendatelaw03.TexteditComposeEquivalent', WHERE WHAT IT READS IS OF BULK AT MOST 1048576: true; the input reads as it did. -/
def texteditComposeEquivalentUptoRow : OpenClaim := { program := "ytocihnncfpmbnaa", sum := "899f5a91c3ce9dc1fea56287f9749ad9bca2176ae3c7a91ab65a4dbe603f94e6", func := "emendate/emendatelaw03.TexteditComposeEquivalent", spec := "texteditComposeEquivalent", unfollowed := true, recurses := true, apart := false, narrowed := true }
def TexteditComposeEquivalentUptoSaid : Prop := texteditComposeEquivalentUptoRow.holds Try.pinned (OpenSpec.upto texteditComposeEquivalentSpec)

/-- 'emendatelaw03.TexteditComposeHull', WHERE WHAT IT READS IS OF BULK AT MOST 1048576: true; the input reads as it did. -/
def texteditComposeHullUptoRow : OpenClaim := { program := "ytocihnncfpmbnaa", sum := "899f5a91c3ce9dc1fea56287f9749ad9bca2176ae3c7a91ab65a4dbe603f94e6", func := "emendate/emendatelaw03.TexteditComposeHull", spec := "texteditComposeHull", unfollowed := true, recurses := true, apart := false, narrowed := true }
def TexteditComposeHullUptoSaid : Prop := texteditComposeHullUptoRow.holds Try.pinned (OpenSpec.upto texteditComposeHullSpec)

/-- 'emendatelaw03.TexteditRebaseMatchesReference', WHERE WHAT IT READS IS OF BULK AT MOST 1048576: true; the input reads as it did. -/
def texteditRebaseMatchesReferenceUptoRow : OpenClaim := { program := "ytocihnncfpmbnaa", sum := "899f5a91c3ce9dc1fea56287f9749ad9bca2176ae3c7a91ab65a4dbe603f94e6", func := "emendate/emendatelaw03.TexteditRebaseMatchesReference", spec := "texteditRebaseMatchesReference", unfollowed := true, recurses := true, apart := false, narrowed := true }
def TexteditRebaseMatchesReferenceUptoSaid : Prop := texteditRebaseMatchesReferenceUptoRow.holds Try.pinned (OpenSpec.upto texteditRebaseMatchesReferenceSpec)

/-- 'emendatelaw03.TexteditRebaseCommutes', WHERE WHAT IT READS IS OF BULK AT MOST 1048576: true; the input reads as it did. -/
def texteditRebaseCommutesUptoRow : OpenClaim := { program := "ytocihnncfpmbnaa", sum := "899f5a91c3ce9dc1fea56287f9749ad9bca2176ae3c7a91ab65a4dbe603f94e6", func := "emendate/emendatelaw03.TexteditRebaseCommutes", spec := "texteditRebaseCommutes", unfollowed := true, recurses := true, apart := false, narrowed := true }
def TexteditRebaseCommutesUptoSaid : Prop := texteditRebaseCommutesUptoRow.holds Try.pinned (OpenSpec.upto texteditRebaseCommutesSpec)

/-- 'emendatelaw03.TexteditSplit', WHERE WHAT IT READS IS OF BULK AT MOST 1048576: true; the input reads as it did. -/
def texteditSplitUptoRow : OpenClaim := { program := "ytocihnncfpmbnaa", sum := "899f5a91c3ce9dc1fea56287f9749ad9bca2176ae3c7a91ab65a4dbe603f94e6", func := "emendate/emendatelaw03.TexteditSplit", spec := "texteditSplit", unfollowed := true, recurses := true, apart := false, narrowed := true }
def TexteditSplitUptoSaid : Prop := texteditSplitUptoRow.holds Try.pinned (OpenSpec.upto texteditSplitSpec)

/-- 'emendatelaw03.TexteditInvertAllRestores', WHERE WHAT IT READS IS OF BULK AT MOST 1048576: true; the input reads as it did. -/
def texteditInvertAllRestoresUptoRow : OpenClaim := { program := "ytocihnncfpmbnaa", sum := "899f5a91c3ce9dc1fea56287f9749ad9bca2176ae3c7a91ab65a4dbe603f94e6", func := "emendate/emendatelaw03.TexteditInvertAllRestores", spec := "texteditInvertAllRestores", unfollowed := true, recurses := true, apart := false, narrowed := true }
def TexteditInvertAllRestoresUptoSaid : Prop := texteditInvertAllRestoresUptoRow.holds Try.pinned (OpenSpec.upto texteditInvertAllRestoresSpec)

end Rows
end Go.Proofs.Ytocihnncfpmbnaa
