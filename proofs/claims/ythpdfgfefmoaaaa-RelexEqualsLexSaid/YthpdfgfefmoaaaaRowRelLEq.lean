/- RelexEqualsLex: for every input the law returns true; the arguments read as they did. -/
import Derived.Test.YthpdfgfefmoaaaaRelOpen
import Derived.Test.YthpdfgfefmoaaaaROpenEds
import Derived.Test.YthpdfgfefmoaaaaRelLEq
namespace Go.Proofs.Ythpdfgfefmoaaaa
open Go.ChangeShapes Go.WideShapes Go.ChangeAt Go.RowKit

set_option maxRecDepth 100000 in
theorem lawRelLEq_lifted (os : Os) (started : os.Started) (H : Type) (enc : TypeId × Value → H) :
    ReturnsInHanded {} Try.checked os 4 .any (Rows.relexEqualsLexSpec.pre6 enc Try.prog Try.f4 Rows.relexEqualsLexRow.domain false)
      (Rows.relexEqualsLexSpec.post enc Try.prog Try.f4 false true false false) := by
  refine returnsInHanded_of_change_sized (C := Try.checked) Try.own started (by kernel_rfl) Try.func4
    (ChangeSpec.witness6 (enc := enc) (C := Try.checked) false ⟨#[], #[.agg #[.slice none 0 0, .slice none 0 0, .slice none 0 0], .string ⟨#[]⟩, .slice none 0 0], []⟩ 8 (by kernel_rfl) (by kernel_rfl) (by kernel_rfl) (by kernel_rfl)) ?_
  intro W base args ds gs before hval0 hW hcnd hsz0 _
  have hval : ∀ (j : Nat) t v, Try.f4.params[j]? = some t → args[j]? = some v → Value.okWide Try.prog W .any base t v := hval0
  have hW' := hW
  obtain ⟨p, q, hA0, hV, rfl, hfz, hnd⟩ := hW
  have hA : DataW.TrodAll enc Try.prog W 0 (fun _ => true) true Try.f4.params.toList args.toList ds p := hA0
  rw [Try.params4] at hA hval
  obtain ⟨v0, v1, v2, d0, d1, d2, p0, p1, p2, rfl, rfl, rfl, h0, h1, h2⟩ := trodAll_three hA
  obtain ⟨rfl, rfl⟩ := trodVars_none hV
  have hsz : (DataW.weightsEach Try.prog [25, 9, 40] [d0, d1, d2]).all (· ≤ reachBytes) = true := hsz0
  obtain ⟨V0, D0, rfl, hD0⟩ := open_dfa (hval 0 25 v0 rfl rfl) h0
  have hw1 : ∀ n ∈ d1.weights Try.prog 9, n ≤ reachBytes := fun n hn => by
    have := List.all_eq_true.1 hsz n (DataW.weights_mem_each (j := 1) rfl rfl n hn)
    simpa using this
  obtain ⟨s1, rfl, hs1⟩ := open_strb (hval 1 9 v1 rfl rfl) h1 hw1
  have hw2 : ∀ n ∈ d2.weights Try.prog 40, n ≤ reachBytes := fun n hn => by
    have := List.all_eq_true.1 hsz n (DataW.weights_mem_each (j := 2) rfl rfl n hn)
    simpa using this
  obtain ⟨A2, n2, c2, l2, rfl, hl2, hnc2, hc2, ht2⟩ := open_eds (hval 2 40 v2 rfl rfl) h2 hw2
  refine (lawREq_any V0 D0 W.heap.size s1 A2 n2 c2 l2 W hD0 (Nat.le_refl _) (Nat.le_trans hs1 (by decide)) hl2 (Nat.le_trans hnc2 hc2) (fun t h => Nat.le_trans (ht2 t h) (by decide))).mono fun e W' ⟨he, hb⟩ => ?_
  subst he
  exact ⟨_, rfl, law_post (by kernel_rfl) (by kernel_rfl) rfl (by kernel_rfl) hW' rfl rfl rfl hb⟩

theorem lawRelLEq_holds : Rows.RelexEqualsLexSaid :=
  OpenClaim.holds_of_wide 4 Try.f4 rfl rfl rfl rfl rfl rfl rfl ⟨rfl, rfl, rfl, rfl, rfl⟩ rfl rfl rfl rfl rfl (by kernel_rfl) Try.func4 (by kernel_rfl)
    (of_decide_eq_true (by kernel_rfl)) (by unfold Func.isWrapper; first | (rw [if_pos (by decide +kernel)]; kernel_rfl) | (rw [if_neg (by decide +kernel)]; exact ⟨rfl, rfl⟩))
    (fun os started H enc _ => lawRelLEq_lifted os started H enc)
#print axioms lawRelLEq_holds
end Go.Proofs.Ythpdfgfefmoaaaa
