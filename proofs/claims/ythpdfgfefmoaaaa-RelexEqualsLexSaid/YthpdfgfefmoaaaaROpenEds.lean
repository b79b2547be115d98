/- A slice of edits among the arguments, and how long their texts are. -/
import Derived.Test.YthpdfgfefmoaaaaROpenSl
import Derived.Test.YthpdfgfefmoaaaaEdL
import Derived.Test.YthpdfgfefmoaaaaROpenEd
namespace Go.Proofs.Ythpdfgfefmoaaaa
open Go.RowKit Go.ChangeShapes Go.WideShapes Go.ChangeAt Go.Joins Go.Deep
variable {H : Type} {enc : TypeId × Value → H}

theorem open_eds {W : World} {v : Value} {d : DataW H} {p : List MemPlace} {r : Reach} {b0 : Nat} (hv : Value.okWide Try.prog W r b0 40 v) (h : DataW.Trod enc Try.prog W 0 (fun _ => true) true 40 v d p)
    (hw : ∀ n ∈ d.weights Try.prog 40, n ≤ reachBytes) :
    ∃ A len cap l, v = .slice A len cap ∧ Reads W W.heap.size 3 A len (eds l) ∧ len ≤ cap ∧ cap ≤ maxLen ∧ ∀ t ∈ l, t.ins.size ≤ reachBytes := by
  obtain ⟨a0, len0, cap0, rfl⟩ := okWide_slice Try.underlying40 hv
  obtain ⟨fuel, hf⟩ := h
  rcases open_slice_fields Try.underlying40 Try.underlying27 (by kernel_rfl) cells_ed hf with ⟨hcs, _⟩ | ⟨a, len, cap, m, D, Pl, hcs, _, hl, hm, hmm, hx, hi⟩
  · simp [Value.cells] at hcs
    obtain ⟨rfl, rfl, rfl⟩ := hcs
    exact ⟨none, 0, 0, [], rfl, Reads.nil_, Nat.le_refl _, by unfold maxLen; omega, by simp⟩
  · simp [Value.cells] at hcs
    obtain ⟨rfl, rfl, rfl⟩ := hcs
    simp only [if_true] at hmm
    subst hmm
    simp only [Prod.mk.injEq] at hx
    obtain ⟨rfl, _⟩ := hx
    have each : ∀ i : Fin len0, ∃ t : Ed, W.cell? (a.add (i * 3 + 0)) = some (.int .i64 t.pos) ∧ W.cell? (a.add (i * 3 + 1)) = some (.int .i64 t.del) ∧ W.cell? (a.add (i * 3 + 2)) = some (.string t.ins) ∧ t.ins.size ≤ reachBytes := by
      intro i
      obtain ⟨ys, n, hD, _, hlen, hf⟩ := hi i.1 (by have := i.2; omega)
      obtain ⟨u0, y0, c0, g0, t0⟩ := hf 0 _ rfl
      obtain ⟨u1, y1, c1, g1, t1⟩ := hf 1 _ rfl
      obtain ⟨u2, y2, c2, g2, t2⟩ := hf 2 _ rfl
      obtain ⟨k, e0, _, _⟩ := DataW.trod_int Try.underlying3 t0
      obtain ⟨q, e1, _, _⟩ := DataW.trod_int Try.underlying3 t1
      obtain ⟨s, e2, hy2, _⟩ := DataW.trod_string Try.underlying9 t2
      simp at e0 e1 e2
      subst e0; subst e1; subst e2
      refine ⟨⟨k, q, s⟩, c0, c1, c2, ?_⟩
      have hp : (ys.map (·.1))[2]? = some (.lit (.string s.data.toList)) := by rw [List.getElem?_map, g2, hy2]; rfl
      have hmem : s.data.toList.length ∈ (D i.1).weights Try.prog 27 := by
        rw [hD]
        simp only [DataW.weights, Try.underlying27]
        exact DataW.weights_mem_each (j := 2) (t := 9) rfl hp _ (by simp [DataW.weights])
      have := hw s.data.toList.length (by
        simp only [DataW.weights, Try.underlying40]
        refine List.mem_cons_of_mem _ (List.mem_append_left _ (weightsAll_mem (i := i.1) (d := D i.1) ?_ _ hmem))
        rw [List.getElem?_map, List.getElem?_range i.2]
        rfl)
      rw [Array.length_toList] at this
      exact this
    let q : Fin len0 → Ed := fun i => Classical.choose (each i)
    have hq := fun i => Classical.choose_spec (each i)
    refine ⟨some a, len0, _, List.ofFn q, rfl, reads_of (by omega) (by rw [eds_length]; simp) ?_, by omega, by omega, ?_⟩
    · intro j u hu
      have hj : j < len0 * 3 := by
        have := (List.getElem?_eq_some_iff.1 hu).1
        rw [eds_length] at this
        simpa using this
      have hdiv : j / 3 < len0 := by omega
      have ht : (List.ofFn q)[j / 3]? = some (q ⟨j / 3, hdiv⟩) := by rw [List.getElem?_ofFn, dif_pos hdiv]
      have h4 := eds_at (List.ofFn q) (j / 3) _ (j % 3) ht (Nat.mod_lt _ (by omega))
      rw [show j / 3 * 3 + j % 3 = j by omega, hu] at h4
      obtain ⟨r0, r1, r2, _⟩ := hq ⟨j / 3, hdiv⟩
      simp only at r0 r1 r2
      have hj4 : j % 3 < 3 := Nat.mod_lt _ (by omega)
      rcases (show j % 3 = 0 ∨ j % 3 = 1 ∨ j % 3 = 2 by omega) with h | h | h
      · rw [h] at h4; rw [show j = j / 3 * 3 + 0 by omega, r0]; simpa [Ed.cells] using h4.symm
      · rw [h] at h4; rw [show j = j / 3 * 3 + 1 by omega, r1]; simpa [Ed.cells] using h4.symm
      · rw [h] at h4; rw [show j = j / 3 * 3 + 2 by omega, r2]; simpa [Ed.cells] using h4.symm
    · intro t ht
      obtain ⟨i, rfl⟩ := List.mem_ofFn.1 ht
      exact (hq i).2.2.2
end Go.Proofs.Ythpdfgfefmoaaaa
