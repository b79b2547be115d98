/- The law TopIncrementalLexing holds: the row and the card. -/
import Derived.Test.YtibdcnmaodmghaaGreatDoorLaid
import Derived.Test.YtibdcnmaodmghaaGreatDoorEd
import Derived.Test.YtibdcnmaodmghaaGreatDoorWb
import Derived.Test.YtibdcnmaodmghaaGreatDoorFb
import Derived.Test.YtibdcnmaodmghaaGreatDoorTie
import Derived.Test.YtibdcnmaodmghaaGreatDoorCards
section
namespace Go.Proofs.YtibdcnmaodmghaaGreatDoor
open Go.ChangeShapes Go.WideShapes Go.ChangeAt Go.RowKit

set_option maxRecDepth 100000 in
theorem lawTop25_lifted (os : Os) (started : os.Started) (H : Type) (enc : TypeId × Value → H) :
    ReturnsInHanded {} Tryz.checked os 3 .any (fun w args => (Rows.topIncrementalLexingSpec.pre enc Tryz.prog Tryz.f3 [] false w args ∧ laidMetH Tryz.prog Rows.topIncrementalLexingRow.laid w) ∧ sizedMet enc Tryz.prog Tryz.f3 (OpenSpec.ofChange Rows.topIncrementalLexingSpec) false w args)
      (Rows.topIncrementalLexingSpec.post enc Tryz.prog Tryz.f3 false true false false) := by
  refine returnsInHanded_of_change_and (C := Tryz.checked) (X := fun w _ => laidMetH Tryz.prog Rows.topIncrementalLexingRow.laid w) (fun _ _ _ hh h => h.of_heap hh) Tryz.own started (by kernel_rfl) Tryz.func3
    (ChangeSpec.witness_at (enc := enc) (C := Tryz.checked) (os := os) (X := fun w _ => laidMetH Tryz.prog Rows.topIncrementalLexingRow.laid w) false (World.laidAll Tryz.prog os [("emendate/lexspec.layoutTerms", Rows.laid_emendate_lexspec_layoutTerms)]) #[.string ⟨#[]⟩, .slice none 0 0] 8 (World.laidAll_os _ _ _) (by kernel_rfl) (by kernel_rfl) (by kernel_rfl) (by kernel_rfl) (by kernel_rfl) (laid_all os _)) ?_
  intro W base args ds gs before hval0 hW hcnd hsz0 hL _
  have hval : ∀ (j : Nat) t v, Tryz.f3.params[j]? = some t → args[j]? = some v → Value.okWide Tryz.prog W .any base t v := hval0
  have hN : Lay W := lay_of_laid (by rw [← laid_plain _ _ (by rfl)]; exact hL)
  have hW' := hW
  obtain ⟨p, q, hA0, hV, rfl, hfz, hnd⟩ := hW
  have hA : DataW.TrodAll enc Tryz.prog W 0 (fun _ => true) true Tryz.f3.params.toList args.toList ds p := hA0
  rw [Tryz.params3] at hA hval
  obtain ⟨v0, v1, d0, d1, p0, p1, rfl, rfl, rfl, h0, h1⟩ := trodAll_two hA
  obtain ⟨rfl, rfl⟩ := trodVars_none hV
  have hsz : (DataW.weightsEach Tryz.prog [9, 22] [d0, d1]).all (· ≤ reachBytes) = true := hsz0
  have hw0 : ∀ n ∈ d0.weights Tryz.prog 9, n ≤ reachBytes := fun n hn => by
    have := List.all_eq_true.1 hsz n (DataW.weights_mem_each (j := 0) rfl rfl n hn)
    simpa using this
  obtain ⟨s1, rfl, hs1⟩ := open_strb (hval 0 9 v0 rfl rfl) h0 hw0
  have hw1 : ∀ n ∈ d1.weights Tryz.prog 22, n ≤ reachBytes := fun n hn => by
    have := List.all_eq_true.1 hsz n (DataW.weights_mem_each (j := 1) rfl rfl n hn)
    simpa using this
  obtain ⟨A2, n2, c2, l2, rfl, hl2, hnc2, hc2, ht2⟩ := open_eds (hval 1 22 v1 rfl rfl) h1 hw1
  refine (top25_any s1 A2 n2 c2 W.heap.size l2 W hN (Nat.le_trans hs1 (by decide)) hl2 (Nat.le_refl _) (Nat.le_trans hnc2 hc2) (fun t h => Nat.le_trans (ht2 t h) (by decide))).mono fun e W' ⟨he, hb⟩ => ?_
  subst he
  exact ⟨_, rfl, law_post (by kernel_rfl) (by kernel_rfl) rfl (by kernel_rfl) hW' rfl rfl rfl hb⟩
theorem lawTop25_row : Rows.TopIncrementalLexingSaid :=
  OpenClaim.holds_of_wide 3 Tryz.f3 rfl rfl rfl rfl rfl rfl rfl ⟨rfl, rfl, rfl, rfl, rfl⟩ rfl rfl rfl rfl rfl (by kernel_rfl) Tryz.func3 closed25
    (of_decide_eq_true (by kernel_rfl)) (by unfold Func.isWrapper; first | (rw [if_pos (by decide +kernel)]; kernel_rfl) | (rw [if_neg (by decide +kernel)]; exact ⟨rfl, rfl⟩))
    (fun os started H enc _ => lawTop25_lifted os started H enc)
theorem lawTop25_holds : Rows.TopIncrementalLexingCardSaid :=
  Claim7.holds_tied_plain_at .later [] [.widerDeep] true Rows.topIncrementalLexingCard.stood.harness true
    lawTop25_row (fun _ h => by cases h) (by kernel_rfl) (fun _ h => by cases h) topIncrementalLexing_row_tie rfl ⟨rfl, rfl⟩ (by kernel_rfl) rfl
    (fun f fn hf hfn => by
      obtain rfl : f = 3 := (Option.some.inj ((show Tryz.prog.funcNamed "emendate/emendatetop.TopIncrementalLexing" = some 3 by kernel_rfl).symm.trans hf)).symm
      obtain rfl : fn = Tryz.f3 := (Option.some.inj (Tryz.func3.symm.trans hfn)).symm
      refine ⟨by kernel_rfl, fun j t ht => ?_⟩
      rw [Tryz.params3] at ht
      have h3 : t = 9 ∨ t = 22 := by
        rcases j with _ | j
        · left; simpa using ht.symm
        · rcases j with _ | j
          · right; simpa using ht.symm
          · simp at ht
      rcases h3 with rfl | rfl
      · exact (show Tryz.prog.wantsStandIn 9 = false by kernel_rfl)
      · exact (show Tryz.prog.wantsStandIn 22 = false by kernel_rfl))
    (by kernel_rfl)
#print axioms lawTop25_holds
end Go.Proofs.YtibdcnmaodmghaaGreatDoor
end
