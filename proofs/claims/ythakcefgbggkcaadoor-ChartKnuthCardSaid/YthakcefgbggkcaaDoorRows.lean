/-
  NARROWER THAN 'FOR EVERY INPUT', by the rows' own cells (each row's printed sentence says how): ChartBuild: laid · ChartKnuth: laid · ChartFixed: laid · ChartSpan: laid · ChartGoal: laid · ChartAt: laid · ChartMonotone: laid · ChartLocal: laid.
  DERIVED. THE GIVEN ROWS OF THIS SEAT. 8 by the template 'for every input the law returns true; each argument reads behind the call as it read before'; 0 by the template 'total and deterministic' (their statements: YthakcefgbggkcaaDoorTotals.lean).
  GIVEN WITH THE SEED: the statements are not yours to turn. If you find one false, say at which input.
  Laid BY PROGRAM, IN A SANDBOX (cutbox-rows.mjs): the forced cells as the released guide's own fill.sh prints them over the translation d0960c0b651f1c82… (all of the seat's roots in one cut). By AI agents, Wed Nov 11 2026. No macro, syntax, notation, axiom, sorry.
-/
import Derived.Test.YthakcefgbggkcaaDoorChecked
import GoSem.Claim
import GoSem.ClaimJoined
import GoSem.ClaimMapViews
import Derived.JoinedTies
import Derived.KernelRfl
namespace Go.Proofs.YthakcefgbggkcaaDoor
/- THE CELL 'sum', in the pinned program and in every row, IS THE sha256 OF THE DUMP (.gsa) THAT YthakcefgbggkcaaDoorProg.lean LOADS. Nothing in Lean hashes anything: it is a label: what it is worth is what the hold of that sum in a sandbox is worth. -/
noncomputable def Tryd.pinned : Pinned := { name := "ythakcefgbggkcaadoor", sum := "d0960c0b651f1c8236c50a353b8ebe83799c839f9c4e256794d56d87d27669fa", checked := Tryd.checked }
namespace Rows
def none {H : Type} : Left H := { results := [], args := [] }

/- WHAT THE LISTED PACKAGE-LEVEL VARIABLES READ AS WHEN THE CALL BEGINS. Each datum BY PROGRAM (the guide's laid-datum.mjs) off the statement by which the dump's own 'gosem.cut.vars' lays the variable. In a bare row this is a premise. The card (YthakcefgbggkcaaDoorCards.lean) ties it to the program's text. -/
def laid_emendate_chart_none {H : Type} : DataW H := .agg [.agg [.lit (.int .i64 1099511627776), .lit (.int .i64 0)], .lit (.int .i64 (-1)), .lit (.int .i64 0)]

/-- 'emendatelaw40.ChartBuild': WHATEVER THE INPUT: true; the input reads as it did. -/
def chartBuildSpec : ChangeSpec := { name := "chartBuild", fn := fun _ => fun
  | [d1, d2] => { results := [.lit (.bool true)], args := [d1, d2] }
  | _ => none }
def chartBuildRow : OpenClaim := { program := "ythakcefgbggkcaadoor", sum := "d0960c0b651f1c8236c50a353b8ebe83799c839f9c4e256794d56d87d27669fa", func := "emendate/emendatelaw40.ChartBuild", spec := "chartBuild", unfollowed := true, recurses := true, named := ["emendate/chart.none"], apart := false, laid := [("emendate/chart.none", laid_emendate_chart_none)] }
def ChartBuildSaid : Prop := chartBuildRow.holds Tryd.pinned (OpenSpec.ofChange chartBuildSpec)

/-- ITS FALSE NEIGHBOUR: 'it returns false'. Refute it at one input. -/
def chartBuildWrong : ChangeSpec := { name := "chartBuild", fn := fun _ => fun
  | [d1, d2] => { results := [.lit (.bool false)], args := [d1, d2] }
  | _ => none }
def ChartBuildWrongFalsely : Prop := chartBuildRow.holds Tryd.pinned (OpenSpec.ofChange chartBuildWrong)

/-- 'emendatelaw40.ChartKnuth': WHATEVER THE INPUT: true; the input reads as it did. -/
def chartKnuthSpec : ChangeSpec := { name := "chartKnuth", fn := fun _ => fun
  | [d1, d2] => { results := [.lit (.bool true)], args := [d1, d2] }
  | _ => none }
def chartKnuthRow : OpenClaim := { program := "ythakcefgbggkcaadoor", sum := "d0960c0b651f1c8236c50a353b8ebe83799c839f9c4e256794d56d87d27669fa", func := "emendate/emendatelaw40.ChartKnuth", spec := "chartKnuth", unfollowed := true, recurses := true, named := ["emendate/chart.none"], apart := false, laid := [("emendate/chart.none", laid_emendate_chart_none)] }
def ChartKnuthSaid : Prop := chartKnuthRow.holds Tryd.pinned (OpenSpec.ofChange chartKnuthSpec)

/-- ITS FALSE NEIGHBOUR: 'it returns false'. Refute it at one input. -/
def chartKnuthWrong : ChangeSpec := { name := "chartKnuth", fn := fun _ => fun
  | [d1, d2] => { results := [.lit (.bool false)], args := [d1, d2] }
  | _ => none }
def ChartKnuthWrongFalsely : Prop := chartKnuthRow.holds Tryd.pinned (OpenSpec.ofChange chartKnuthWrong)

/-- 'emendatelaw40.ChartFixed': WHATEVER THE INPUT: true; the input reads as it did. -/
def chartFixedSpec : ChangeSpec := { name := "chartFixed", fn := fun _ => fun
  | [d1, d2] => { results := [.lit (.bool true)], args := [d1, d2] }
  | _ => none }
def chartFixedRow : OpenClaim := { program := "ythakcefgbggkcaadoor", sum := "d0960c0b651f1c8236c50a353b8ebe83799c839f9c4e256794d56d87d27669fa", func := "emendate/emendatelaw40.ChartFixed", spec := "chartFixed", unfollowed := true, recurses := true, named := ["emendate/chart.none"], apart := false, laid := [("emendate/chart.none", laid_emendate_chart_none)] }
def ChartFixedSaid : Prop := chartFixedRow.holds Tryd.pinned (OpenSpec.ofChange chartFixedSpec)

/-- ITS FALSE NEIGHBOUR: 'it returns false'. Refute it at one input. -/
def chartFixedWrong : ChangeSpec := { name := "chartFixed", fn := fun _ => fun
  | [d1, d2] => { results := [.lit (.bool false)], args := [d1, d2] }
  | _ => none }
def ChartFixedWrongFalsely : Prop := chartFixedRow.holds Tryd.pinned (OpenSpec.ofChange chartFixedWrong)

/-- 'emendatelaw40.ChartSpan': WHATEVER THE INPUT: true; the input reads as it did. -/
def chartSpanSpec : ChangeSpec := { name := "chartSpan", fn := fun _ => fun
  | [d1, d2, d3] => { results := [.lit (.bool true)], args := [d1, d2, d3] }
  | _ => none }
def chartSpanRow : OpenClaim := { program := "ythakcefgbggkcaadoor", sum := "d0960c0b651f1c8236c50a353b8ebe83799c839f9c4e256794d56d87d27669fa", func := "emendate/emendatelaw40.ChartSpan", spec := "chartSpan", unfollowed := true, recurses := true, named := ["emendate/chart.none"], apart := false, laid := [("emendate/chart.none", laid_emendate_chart_none)] }
def ChartSpanSaid : Prop := chartSpanRow.holds Tryd.pinned (OpenSpec.ofChange chartSpanSpec)

/-- ITS FALSE NEIGHBOUR: 'it returns false'. Refute it at one input. -/
def chartSpanWrong : ChangeSpec := { name := "chartSpan", fn := fun _ => fun
  | [d1, d2, d3] => { results := [.lit (.bool false)], args := [d1, d2, d3] }
  | _ => none }
def ChartSpanWrongFalsely : Prop := chartSpanRow.holds Tryd.pinned (OpenSpec.ofChange chartSpanWrong)

/-- 'emendatelaw40.ChartGoal': WHATEVER THE INPUT: true; the input reads as it did. -/
def chartGoalSpec : ChangeSpec := { name := "chartGoal", fn := fun _ => fun
  | [d1, d2] => { results := [.lit (.bool true)], args := [d1, d2] }
  | _ => none }
def chartGoalRow : OpenClaim := { program := "ythakcefgbggkcaadoor", sum := "d0960c0b651f1c8236c50a353b8ebe83799c839f9c4e256794d56d87d27669fa", func := "emendate/emendatelaw40.ChartGoal", spec := "chartGoal", unfollowed := true, recurses := true, named := ["emendate/chart.none"], apart := false, laid := [("emendate/chart.none", laid_emendate_chart_none)] }
def ChartGoalSaid : Prop := chartGoalRow.holds Tryd.pinned (OpenSpec.ofChange chartGoalSpec)

/-- ITS FALSE NEIGHBOUR: 'it returns false'. Refute it at one input. -/
def chartGoalWrong : ChangeSpec := { name := "chartGoal", fn := fun _ => fun
  | [d1, d2] => { results := [.lit (.bool false)], args := [d1, d2] }
  | _ => none }
def ChartGoalWrongFalsely : Prop := chartGoalRow.holds Tryd.pinned (OpenSpec.ofChange chartGoalWrong)

/-- 'emendatelaw40.ChartAt': WHATEVER THE INPUT: true; the input reads as it did. -/
def chartAtSpec : ChangeSpec := { name := "chartAt", fn := fun _ => fun
  | [d1, d2] => { results := [.lit (.bool true)], args := [d1, d2] }
  | _ => none }
def chartAtRow : OpenClaim := { program := "ythakcefgbggkcaadoor", sum := "d0960c0b651f1c8236c50a353b8ebe83799c839f9c4e256794d56d87d27669fa", func := "emendate/emendatelaw40.ChartAt", spec := "chartAt", unfollowed := true, recurses := true, named := ["emendate/chart.none"], apart := false, laid := [("emendate/chart.none", laid_emendate_chart_none)] }
def ChartAtSaid : Prop := chartAtRow.holds Tryd.pinned (OpenSpec.ofChange chartAtSpec)

/-- ITS FALSE NEIGHBOUR: 'it returns false'. Refute it at one input. -/
def chartAtWrong : ChangeSpec := { name := "chartAt", fn := fun _ => fun
  | [d1, d2] => { results := [.lit (.bool false)], args := [d1, d2] }
  | _ => none }
def ChartAtWrongFalsely : Prop := chartAtRow.holds Tryd.pinned (OpenSpec.ofChange chartAtWrong)

/-- 'emendatelaw40.ChartMonotone': WHATEVER THE INPUT: true; the input reads as it did. -/
def chartMonotoneSpec : ChangeSpec := { name := "chartMonotone", fn := fun _ => fun
  | [d1, d2, d3] => { results := [.lit (.bool true)], args := [d1, d2, d3] }
  | _ => none }
def chartMonotoneRow : OpenClaim := { program := "ythakcefgbggkcaadoor", sum := "d0960c0b651f1c8236c50a353b8ebe83799c839f9c4e256794d56d87d27669fa", func := "emendate/emendatelaw40.ChartMonotone", spec := "chartMonotone", unfollowed := true, recurses := true, named := ["emendate/chart.none"], apart := false, laid := [("emendate/chart.none", laid_emendate_chart_none)] }
def ChartMonotoneSaid : Prop := chartMonotoneRow.holds Tryd.pinned (OpenSpec.ofChange chartMonotoneSpec)

/-- ITS FALSE NEIGHBOUR: 'it returns false'. Refute it at one input. -/
def chartMonotoneWrong : ChangeSpec := { name := "chartMonotone", fn := fun _ => fun
  | [d1, d2, d3] => { results := [.lit (.bool false)], args := [d1, d2, d3] }
  | _ => none }
def ChartMonotoneWrongFalsely : Prop := chartMonotoneRow.holds Tryd.pinned (OpenSpec.ofChange chartMonotoneWrong)

/-- 'emendatelaw40.ChartLocal': WHATEVER THE INPUT: true; the input reads as it did. -/
def chartLocalSpec : ChangeSpec := { name := "chartLocal", fn := fun _ => fun
  | [d1, d2, d3] => { results := [.lit (.bool true)], args := [d1, d2, d3] }
  | _ => none }
def chartLocalRow : OpenClaim := { program := "ythakcefgbggkcaadoor", sum := "d0960c0b651f1c8236c50a353b8ebe83799c839f9c4e256794d56d87d27669fa", func := "emendate/emendatelaw40.ChartLocal", spec := "chartLocal", unfollowed := true, recurses := true, named := ["emendate/chart.none"], apart := false, laid := [("emendate/chart.none", laid_emendate_chart_none)] }
def ChartLocalSaid : Prop := chartLocalRow.holds Tryd.pinned (OpenSpec.ofChange chartLocalSpec)

/-- ITS FALSE NEIGHBOUR: 'it returns false'. Refute it at one input. -/
def chartLocalWrong : ChangeSpec := { name := "chartLocal", fn := fun _ => fun
  | [d1, d2, d3] => { results := [.lit (.bool false)], args := [d1, d2, d3] }
  | _ => none }
def ChartLocalWrongFalsely : Prop := chartLocalRow.holds Tryd.pinned (OpenSpec.ofChange chartLocalWrong)

/- THE SECOND FORM. 'bulk': how many values and letters a reading holds, each counted each time it is reached (what is shared counts as often as it is met; a slice's spare places count too). A statement '..UptoSaid' is the law's where the arguments, and the package variables that the reading takes, are together of bulk at most 1048576: NARROWER than '..Said'. Prove '..Said' where nothing that the law and all that it calls make is longer than what came in: it says more and counts as full. Else prove '..UptoSaid'. A law counts once. -/
mutual
def uptoBulk {H : Type} : DataW H → Nat
  | .lit (.string bytes) => bytes.length + 1
  | .lit _ => 1
  | .nil => 1
  | .ptr d => uptoBulk d + 1
  | .slice elems spare => uptoBulkAll elems + uptoBulkAll spare + 1
  | .agg parts => uptoBulkAll parts + 1
  | .iface _ d => uptoBulk d + 1
  | .map entries => uptoBulkEntries entries + 1
  | .held _ => 1
def uptoBulkAll {H : Type} : List (DataW H) → Nat
  | [] => 0
  | d :: r => uptoBulk d + uptoBulkAll r
def uptoBulkEntries {H : Type} : List (Lit × DataW H) → Nat
  | [] => 0
  | x :: r => uptoBulkEntry x + uptoBulkEntries r
def uptoBulkEntry {H : Type} : Lit × DataW H → Nat
  | (.string bytes, d) => bytes.length + uptoBulk d + 1
  | (_, d) => uptoBulk d + 1
 end
def uptoSmall : (H : Type) → List (DataW H) → Bool := fun _ ds => decide (uptoBulkAll ds ≤ 1048576)
def OpenSpec.upto (s : _root_.Go.ChangeSpec) : _root_.Go.OpenSpec := { _root_.Go.OpenSpec.ofChange s with cond := some uptoSmall }

/-- 'emendatelaw40.ChartBuild', WHERE WHAT IT READS IS OF BULK AT MOST 1048576: true; the input reads as it did. -/
def chartBuildUptoRow : OpenClaim := { program := "ythakcefgbggkcaadoor", sum := "d0960c0b651f1c8236c50a353b8ebe83799c839f9c4e256794d56d87d27669fa", func := "emendate/emendatelaw40.ChartBuild", spec := "chartBuild", unfollowed := true, recurses := true, named := ["emendate/chart.none"], apart := false, laid := [("emendate/chart.none", laid_emendate_chart_none)], narrowed := true }
def ChartBuildUptoSaid : Prop := chartBuildUptoRow.holds Tryd.pinned (OpenSpec.upto chartBuildSpec)

/-- 'emendatelaw40.ChartKnuth', WHERE WHAT IT READS IS OF BULK AT MOST 1048576: true; the input reads as it did. -/
def chartKnuthUptoRow : OpenClaim := { program := "ythakcefgbggkcaadoor", sum := "d0960c0b651f1c8236c50a353b8ebe83799c839f9c4e256794d56d87d27669fa", func := "emendate/emendatelaw40.ChartKnuth", spec := "chartKnuth", unfollowed := true, recurses := true, named := ["emendate/chart.none"], apart := false, laid := [("emendate/chart.none", laid_emendate_chart_none)], narrowed := true }
def ChartKnuthUptoSaid : Prop := chartKnuthUptoRow.holds Tryd.pinned (OpenSpec.upto chartKnuthSpec)

/-- 'emendatelaw40.ChartFixed', WHERE WHAT IT READS IS OF BULK AT MOST 1048576: true; the input reads as it did. -/
def chartFixedUptoRow : OpenClaim := { program := "ythakcefgbggkcaadoor", sum := "d0960c0b651f1c8236c50a353b8ebe83799c839f9c4e256794d56d87d27669fa", func := "emendate/emendatelaw40.ChartFixed", spec := "chartFixed", unfollowed := true, recurses := true, named := ["emendate/chart.none"], apart := false, laid := [("emendate/chart.none", laid_emendate_chart_none)], narrowed := true }
def ChartFixedUptoSaid : Prop := chartFixedUptoRow.holds Tryd.pinned (OpenSpec.upto chartFixedSpec)

/-- 'emendatelaw40.ChartSpan', WHERE WHAT IT READS IS OF BULK AT MOST 1048576: true; the input reads as it did. -/
def chartSpanUptoRow : OpenClaim := { program := "ythakcefgbggkcaadoor", sum := "d0960c0b651f1c8236c50a353b8ebe83799c839f9c4e256794d56d87d27669fa", func := "emendate/emendatelaw40.ChartSpan", spec := "chartSpan", unfollowed := true, recurses := true, named := ["emendate/chart.none"], apart := false, laid := [("emendate/chart.none", laid_emendate_chart_none)], narrowed := true }
def ChartSpanUptoSaid : Prop := chartSpanUptoRow.holds Tryd.pinned (OpenSpec.upto chartSpanSpec)

/-- 'emendatelaw40.ChartGoal', WHERE WHAT IT READS IS OF BULK AT MOST 1048576: true; the input reads as it did. -/
def chartGoalUptoRow : OpenClaim := { program := "ythakcefgbggkcaadoor", sum := "d0960c0b651f1c8236c50a353b8ebe83799c839f9c4e256794d56d87d27669fa", func := "emendate/emendatelaw40.ChartGoal", spec := "chartGoal", unfollowed := true, recurses := true, named := ["emendate/chart.none"], apart := false, laid := [("emendate/chart.none", laid_emendate_chart_none)], narrowed := true }
def ChartGoalUptoSaid : Prop := chartGoalUptoRow.holds Tryd.pinned (OpenSpec.upto chartGoalSpec)

/-- 'emendatelaw40.ChartAt', WHERE WHAT IT READS IS OF BULK AT MOST 1048576: true; the input reads as it did. -/
def chartAtUptoRow : OpenClaim := { program := "ythakcefgbggkcaadoor", sum := "d0960c0b651f1c8236c50a353b8ebe83799c839f9c4e256794d56d87d27669fa", func := "emendate/emendatelaw40.ChartAt", spec := "chartAt", unfollowed := true, recurses := true, named := ["emendate/chart.none"], apart := false, laid := [("emendate/chart.none", laid_emendate_chart_none)], narrowed := true }
def ChartAtUptoSaid : Prop := chartAtUptoRow.holds Tryd.pinned (OpenSpec.upto chartAtSpec)

/-- 'emendatelaw40.ChartMonotone', WHERE WHAT IT READS IS OF BULK AT MOST 1048576: true; the input reads as it did. -/
def chartMonotoneUptoRow : OpenClaim := { program := "ythakcefgbggkcaadoor", sum := "d0960c0b651f1c8236c50a353b8ebe83799c839f9c4e256794d56d87d27669fa", func := "emendate/emendatelaw40.ChartMonotone", spec := "chartMonotone", unfollowed := true, recurses := true, named := ["emendate/chart.none"], apart := false, laid := [("emendate/chart.none", laid_emendate_chart_none)], narrowed := true }
def ChartMonotoneUptoSaid : Prop := chartMonotoneUptoRow.holds Tryd.pinned (OpenSpec.upto chartMonotoneSpec)

/-- 'emendatelaw40.ChartLocal', WHERE WHAT IT READS IS OF BULK AT MOST 1048576: true; the input reads as it did. -/
def chartLocalUptoRow : OpenClaim := { program := "ythakcefgbggkcaadoor", sum := "d0960c0b651f1c8236c50a353b8ebe83799c839f9c4e256794d56d87d27669fa", func := "emendate/emendatelaw40.ChartLocal", spec := "chartLocal", unfollowed := true, recurses := true, named := ["emendate/chart.none"], apart := false, laid := [("emendate/chart.none", laid_emendate_chart_none)], narrowed := true }
def ChartLocalUptoSaid : Prop := chartLocalUptoRow.holds Tryd.pinned (OpenSpec.upto chartLocalSpec)

end Rows
end Go.Proofs.YthakcefgbggkcaaDoor
