/- A slice of structs among the arguments, opened to cells; a slice of tokens, and how long their texts are. -/
import Derived.Test.YtdpdggmafmebeaaOpen
import Derived.Test.YtdpdggmafmebeaaTok
import Derived.SizedLaws
namespace Go.Proofs.Ytdpdggmafmebeaa
open Go.RowKit Go.ChangeShapes Go.WideShapes Go.ChangeAt Go.Joins Go.Deep

section
variable {H : Type} {enc : TypeId × Value → H} {P : Program} {w : World} {base : Nat} {spare : Nat → Bool} {held : Bool}
theorem open_slice_fields {t e : TypeId} {fs : Array Field} {fuel : Nat} {cs : List Value} {x : DataW H × List MemPlace} (ht : P.underlying t = some (.slice e)) (he : P.underlying e = some (.struct fs))
    (hone : oneCellFields P fs = true) (hC : P.cellsOf e = fs.size) (h : DataW.trod enc P w base spare held fuel t cs = some x) :
    (cs = [.slice none 0 0] ∧ x = (.nil, [])) ∨
    ∃ (a : Addr) (len cap m : Nat) (D : Nat → DataW H) (Pl : Nat → List MemPlace), cs = [.slice (some a) len cap] ∧ base ≤ a.block ∧ len ≤ cap ∧ cap ≤ maxLen ∧ m = (if spare a.block then cap else len) ∧
      x = (.slice ((List.range len).map D) ((List.range (m - len)).map fun j => D (len + j)), MemPlace.row a (m * fs.size) ++ (List.range m).flatMap Pl) ∧
      ∀ i, i < m → ∃ (ys : List (DataW H × List MemPlace)) (n : Nat), D i = .agg (ys.map (·.1)) ∧ Pl i = ys.flatMap (·.2) ∧ ys.length = fs.size ∧
        ∀ (j : Nat) (f : Field), fs[j]? = some f → ∃ (v : Value) (y : DataW H × List MemPlace), w.cell? (a.add (i * fs.size + j)) = some v ∧ ys[j]? = some y ∧ DataW.trod enc P w base spare held n f.type [v] = some y := by
  rcases open_slice ht h with h0 | ⟨a, len, cap, m, n, D, Pl, hcs, hb, hl, hm, hmm, hx, hi⟩
  · exact .inl h0
  · refine .inr ⟨a, len, cap, m, D, Pl, hcs, hb, hl, hm, hmm, by rw [hC] at hx; exact hx, fun i him => ?_⟩
    obtain ⟨cs', hc, ht'⟩ := hi i him
    rw [hC] at hc
    obtain ⟨ys, n', hn', hy, hlen, hyl, hf⟩ := DataW.trod_struct he ht'
    obtain ⟨_, hcl, hat⟩ := World.cells?_some hc
    simp only [Prod.mk.injEq] at hy
    refine ⟨ys, n', hy.1, hy.2, hyl, fun j f hj => ?_⟩
    obtain ⟨ho, hk⟩ := hone_of hone j f hj
    have hjl : j < fs.size := (Array.getElem?_eq_some_iff.1 hj).1
    have hcell := hat j hjl
    have hv : cs'[j]? = some (cs'[j]'(by omega)) := List.getElem?_eq_getElem (by omega)
    have h1 := hf j f hj
    rw [ho, hk] at h1
    have hone' : (cs'.drop j).take 1 = [cs'[j]'(by omega)] := by
      rw [List.drop_eq_getElem_cons (by omega)]
      rfl
    rw [hone'] at h1
    have hys : ys[j]? = some (ys[j]'(by omega)) := List.getElem?_eq_getElem (by omega)
    refine ⟨_, _, ?_, hys, h1.trans hys⟩
    rw [← Go.Deep.add_add, hcell, hv]
end

theorem weightsAll_mem {H : Type} {P : Program} {e : TypeId} : ∀ {ds : List (DataW H)} {i : Nat} {d : DataW H}, ds[i]? = some d → ∀ n ∈ d.weights P e, n ∈ DataW.weightsAll P e ds
  | [], _, _, h, _, _ => by simp at h
  | x :: ds, 0, d, h, n, hn => by
    simp at h
    subst h
    simp only [DataW.weightsAll, List.mem_append]
    exact .inl hn
  | x :: ds, i + 1, d, h, n, hn => by
    simp only [DataW.weightsAll, List.mem_append]
    exact .inr (weightsAll_mem (by simpa using h) n hn)

theorem cells_tok : Try.prog.cellsOf 32 = 4 := by kernel_rfl
section
variable {H : Type} {enc : TypeId × Value → H}
theorem open_toks {W : World} {v : Value} {d : DataW H} {p : List MemPlace} {r : Reach} {b0 : Nat} (hv : Value.okWide Try.prog W r b0 29 v) (h : DataW.Trod enc Try.prog W 0 (fun _ => true) true 29 v d p)
    (hw : ∀ n ∈ d.weights Try.prog 29, n ≤ reachBytes) :
    ∃ A len cap l, v = .slice A len cap ∧ Reads W W.heap.size 4 A len (toks l) ∧ len ≤ maxLen ∧ ∀ t ∈ l, t.text.size ≤ reachBytes := by
  obtain ⟨a0, len0, cap0, rfl⟩ := okWide_slice Try.underlying29 hv
  obtain ⟨fuel, hf⟩ := h
  rcases open_slice_fields Try.underlying29 Try.underlying32 (by kernel_rfl) cells_tok hf with ⟨hcs, _⟩ | ⟨a, len, cap, m, D, Pl, hcs, _, hl, hm, hmm, hx, hi⟩
  · simp [Value.cells] at hcs
    obtain ⟨rfl, rfl, rfl⟩ := hcs
    exact ⟨none, 0, 0, [], rfl, Reads.nil_, by unfold maxLen; omega, by simp⟩
  · simp [Value.cells] at hcs
    obtain ⟨rfl, rfl, rfl⟩ := hcs
    simp only [if_true] at hmm
    subst hmm
    simp only [Prod.mk.injEq] at hx
    obtain ⟨rfl, _⟩ := hx
    have each : ∀ i : Fin len0, ∃ t : Tok, W.cell? (a.add (i * 4 + 0)) = some (.int .i64 t.kind) ∧ W.cell? (a.add (i * 4 + 1)) = some (.int .i64 t.pos) ∧ W.cell? (a.add (i * 4 + 2)) = some (.string t.text) ∧ W.cell? (a.add (i * 4 + 3)) = some (.int .i64 t.look) ∧ t.text.size ≤ reachBytes := by
      intro i
      obtain ⟨ys, n, hD, _, hlen, hf⟩ := hi i.1 (by have := i.2; omega)
      obtain ⟨u0, y0, c0, g0, t0⟩ := hf 0 _ rfl
      obtain ⟨u1, y1, c1, g1, t1⟩ := hf 1 _ rfl
      obtain ⟨u2, y2, c2, g2, t2⟩ := hf 2 _ rfl
      obtain ⟨u3, y3, c3, g3, t3⟩ := hf 3 _ rfl
      obtain ⟨k, e0, _, _⟩ := DataW.trod_int Try.underlying3 t0
      obtain ⟨q, e1, _, _⟩ := DataW.trod_int Try.underlying3 t1
      obtain ⟨s, e2, hy2, _⟩ := DataW.trod_string Try.underlying9 t2
      obtain ⟨l, e3, _, _⟩ := DataW.trod_int Try.underlying3 t3
      simp at e0 e1 e2 e3
      subst e0; subst e1; subst e2; subst e3
      refine ⟨⟨k, q, s, l⟩, c0, c1, c2, c3, ?_⟩
      have hp : (ys.map (·.1))[2]? = some (.lit (.string s.data.toList)) := by rw [List.getElem?_map, g2, hy2]; rfl
      have hmem : s.data.toList.length ∈ (D i.1).weights Try.prog 32 := by
        rw [hD]
        simp only [DataW.weights, Try.underlying32]
        exact DataW.weights_mem_each (j := 2) (t := 9) rfl hp _ (by simp [DataW.weights])
      have := hw s.data.toList.length (by
        simp only [DataW.weights, Try.underlying29]
        refine List.mem_cons_of_mem _ (List.mem_append_left _ (weightsAll_mem (i := i.1) (d := D i.1) ?_ _ hmem))
        rw [List.getElem?_map, List.getElem?_range i.2]
        rfl)
      rw [Array.length_toList] at this
      exact this
    let q : Fin len0 → Tok := fun i => Classical.choose (each i)
    have hq := fun i => Classical.choose_spec (each i)
    refine ⟨some a, len0, _, List.ofFn q, rfl, reads_of (by omega) (by rw [toks_length]; simp) ?_, by omega, ?_⟩
    · intro j u hu
      have hj : j < len0 * 4 := by
        have := (List.getElem?_eq_some_iff.1 hu).1
        rw [toks_length] at this
        simpa using this
      have hdiv : j / 4 < len0 := by omega
      have ht : (List.ofFn q)[j / 4]? = some (q ⟨j / 4, hdiv⟩) := by rw [List.getElem?_ofFn, dif_pos hdiv]
      have h4 := toks_at (List.ofFn q) (j / 4) _ (j % 4) ht (Nat.mod_lt _ (by omega))
      rw [show j / 4 * 4 + j % 4 = j by omega, hu] at h4
      obtain ⟨r0, r1, r2, r3, _⟩ := hq ⟨j / 4, hdiv⟩
      simp only at r0 r1 r2 r3
      have hj4 : j % 4 < 4 := Nat.mod_lt _ (by omega)
      rcases (show j % 4 = 0 ∨ j % 4 = 1 ∨ j % 4 = 2 ∨ j % 4 = 3 by omega) with h | h | h | h
      · rw [h] at h4; rw [show j = j / 4 * 4 + 0 by omega, r0]; simpa [Tok.cells] using h4.symm
      · rw [h] at h4; rw [show j = j / 4 * 4 + 1 by omega, r1]; simpa [Tok.cells] using h4.symm
      · rw [h] at h4; rw [show j = j / 4 * 4 + 2 by omega, r2]; simpa [Tok.cells] using h4.symm
      · rw [h] at h4; rw [show j = j / 4 * 4 + 3 by omega, r3]; simpa [Tok.cells] using h4.symm
    · intro t ht
      obtain ⟨i, rfl⟩ := List.mem_ofFn.1 ht
      exact (hq i).2.2.2.2
end
end Go.Proofs.Ytdpdggmafmebeaa
