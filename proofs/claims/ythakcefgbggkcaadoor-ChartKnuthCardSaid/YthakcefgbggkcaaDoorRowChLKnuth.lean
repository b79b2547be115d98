/- ChartKnuth: for every input the law returns true; the arguments read as they did. -/
import Derived.Test.YthakcefgbggkcaaDoorChOpenG
import Derived.Test.YthakcefgbggkcaaDoorChLaid
import Derived.Test.YthakcefgbggkcaaDoorChLKnuth
import Derived.MakeChecks
import Derived.LaidHandle
import Derived.SevenTiedAt
import Derived.Test.YthakcefgbggkcaaDoorTie
import Derived.Test.YthakcefgbggkcaaDoorCards
namespace Go.Proofs.YthakcefgbggkcaaDoor
open Go.ChangeShapes Go.WideShapes Go.ChangeAt Go.RowKit

set_option maxRecDepth 100000 in
theorem lawChLKnuth_lifted (os : Os) (started : os.Started) (H : Type) (enc : TypeId × Value → H) :
    ReturnsInHanded {} Tryd.checked os 4 .any (fun w args => (Rows.chartKnuthSpec.pre enc Tryd.prog Tryd.f4 [] false w args ∧ laidMetH Tryd.prog Rows.chartKnuthRow.laid w) ∧ sizedMet enc Tryd.prog Tryd.f4 (OpenSpec.ofChange Rows.chartKnuthSpec) false w args)
      (Rows.chartKnuthSpec.post enc Tryd.prog Tryd.f4 false true false false) := by
  refine returnsInHanded_of_change_and (C := Tryd.checked) (X := fun w _ => laidMetH Tryd.prog Rows.chartKnuthRow.laid w) (fun _ _ _ hh h => h.of_heap hh) Tryd.own started (by kernel_rfl) Tryd.func4
    (ChangeSpec.witness_at (enc := enc) (C := Tryd.checked) (os := os) (X := fun w _ => laidMetH Tryd.prog Rows.chartKnuthRow.laid w) false (World.laidAll Tryd.prog os [("emendate/chart.none", Rows.laid_emendate_chart_none)]) #[.agg #[.int .i64 0, .int .i64 0, .int .i64 0, .slice none 0 0], .agg #[.int .i64 0, .slice none 0 0, .slice none 0 0]] 8 (World.laidAll_os _ _ _) (by kernel_rfl) (by kernel_rfl) (by kernel_rfl) (by kernel_rfl) (by kernel_rfl) (laid_all os _)) ?_
  intro W base args ds gs before hval0 hW hcnd _ hL _
  have hval : ∀ (j : Nat) t v, Tryd.f4.params[j]? = some t → args[j]? = some v → Value.okWide Tryd.prog W .any base t v := hval0
  have hN : NoneAt W := none_of_laid (by rw [← laid_plain _ _ (by rfl)]; exact hL)
  have hW' := hW
  obtain ⟨p, q, hA0, hV, rfl, hfz, hnd⟩ := hW
  have hA : DataW.TrodAll enc Tryd.prog W 0 (fun _ => true) true Tryd.f4.params.toList args.toList ds p := hA0
  rw [Tryd.params4] at hA hval
  obtain ⟨v0, v1, d0, d1, p0, p1, rfl, rfl, rfl, h0, h1⟩ := trodAll_two hA
  obtain ⟨rfl, rfl⟩ := trodVars_none hV
  obtain ⟨T, N, st, RA, rc, R, rfl, hR⟩ := open_normal (hval 0 24 v0 rfl rfl) h0
  obtain ⟨S, LA, lc, L, FA, nf, fc, fs, rfl, hLL, hF, hnf⟩ := open_lattice (hval 1 28 v1 rfl rfl) h1
  refine (lawKnuth_any W T N st S RA LA FA R.length rc L.length lc nf fc W.heap.size R L fs hR hLL hF (Nat.le_refl _) hN).mono fun e W' ⟨he, hb⟩ => ?_
  subst he
  exact ⟨_, rfl, law_post (by kernel_rfl) (by kernel_rfl) rfl (by kernel_rfl) hW' rfl rfl rfl hb⟩
theorem lawChLKnuth_row : Rows.ChartKnuthSaid :=
  OpenClaim.holds_of_wide 4 Tryd.f4 rfl rfl rfl rfl rfl rfl rfl ⟨rfl, rfl, rfl, rfl, rfl⟩ rfl rfl rfl rfl rfl (by kernel_rfl) Tryd.func4 (by kernel_rfl)
    (of_decide_eq_true (by kernel_rfl)) (by unfold Func.isWrapper; first | (rw [if_pos (by decide +kernel)]; kernel_rfl) | (rw [if_neg (by decide +kernel)]; exact ⟨rfl, rfl⟩))
    (fun os started H enc _ => lawChLKnuth_lifted os started H enc)
theorem lawChLKnuth_holds : Rows.ChartKnuthCardSaid :=
  Claim7.holds_tied_plain_at .later [] [.data] true Rows.chartKnuthCard.stood.harness false
    lawChLKnuth_row (fun _ h => by cases h) (by kernel_rfl) (fun _ h => by cases h) chartKnuth_row_tie rfl ⟨rfl, rfl⟩ (by kernel_rfl) rfl
    (fun f fn hf hfn => by
      obtain rfl : f = 4 := (Option.some.inj ((show Tryd.prog.funcNamed "emendate/emendatelaw40.ChartKnuth" = some 4 by kernel_rfl).symm.trans hf)).symm
      obtain rfl : fn = Tryd.f4 := (Option.some.inj (Tryd.func4.symm.trans hfn)).symm
      refine ⟨by kernel_rfl, fun j t ht => ?_⟩
      rw [Tryd.params4] at ht
      have h3 : t = 24 ∨ t = 28 := by
        rcases j with _ | j
        · left; simpa using ht.symm
        · rcases j with _ | j
          · right; simpa using ht.symm
          · simp at ht
      rcases h3 with rfl | rfl
      · exact (show Tryd.prog.wantsStandIn 24 = false by kernel_rfl)
      · exact (show Tryd.prog.wantsStandIn 28 = false by kernel_rfl))
    (by kernel_rfl)
#print axioms lawChLKnuth_holds
end Go.Proofs.YthakcefgbggkcaaDoor
