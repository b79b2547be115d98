/- Steps and an edit among the arguments, and how long their texts are. -/
import Derived.Test.YtepohmklbfkdfaaOpenSl
import Derived.Test.YtepohmklbfkdfaaURun
namespace Go.Proofs.Ytepohmklbfkdfaa
open Go.RowKit Go.ChangeShapes Go.WideShapes Go.ChangeAt Go.Joins Go.Deep

theorem cells_ed : Try.prog.cellsOf 31 = 3 := by kernel_rfl
theorem cells_st : Try.prog.cellsOf 36 = 4 := by kernel_rfl
theorem cells_u8 : Try.prog.cellsOf 5 = 1 := by kernel_rfl
theorem cells_str : Try.prog.cellsOf 9 = 1 := by kernel_rfl
section
variable {H : Type} {enc : TypeId × Value → H}
/-- An edit's three cells. -/
theorem trod_ed {w : World} {base : Nat} {spare : Nat → Bool} {held : Bool} {fuel : Nat} {c0 c1 c2 : Value} {x : DataW H × List MemPlace} (h : DataW.trod enc Try.prog w base spare held fuel 31 [c0, c1, c2] = some x) :
    ∃ (a b : Int) (t : ByteArray), c0 = .int .i64 a ∧ c1 = .int .i64 b ∧ c2 = .string t ∧ ((∀ n ∈ x.1.weights Try.prog 31, n ≤ reachBytes) → t.size ≤ reachBytes) := by
  obtain ⟨ys, n, _, rfl, _, hyl, hf⟩ := DataW.trod_struct Try.underlying31 h
  have g0 : DataW.trod enc Try.prog w base spare held n 3 (List.take (Try.prog.cellsOf 3) [c0, c1, c2]) = ys[0]? := hf 0 _ rfl
  have g1 : DataW.trod enc Try.prog w base spare held n 3 (List.take (Try.prog.cellsOf 3) [c1, c2]) = ys[1]? := hf 1 _ rfl
  have g2 : DataW.trod enc Try.prog w base spare held n 9 (List.take (Try.prog.cellsOf 9) [c2]) = ys[2]? := hf 2 _ rfl
  have s0 := List.getElem?_eq_getElem (l := ys) (i := 0) (by rw [hyl]; decide)
  have s1 := List.getElem?_eq_getElem (l := ys) (i := 1) (by rw [hyl]; decide)
  have s2 := List.getElem?_eq_getElem (l := ys) (i := 2) (by rw [hyl]; decide)
  rw [s0] at g0
  rw [s1] at g1
  rw [s2] at g2
  simp only [cells_int, cells_str, List.take_succ_cons, List.take_zero] at g0 g1 g2
  obtain ⟨a, e0, _, _⟩ := DataW.trod_int Try.underlying3 g0
  obtain ⟨b, e1, _, _⟩ := DataW.trod_int Try.underlying3 g1
  obtain ⟨t, e2, hy2, _⟩ := DataW.trod_string Try.underlying9 g2
  simp at e0 e1 e2
  refine ⟨a, b, t, e0, e1, e2, fun hw => ?_⟩
  have hp : (ys.map (·.1))[2]? = some (.lit (.string t.data.toList)) := by rw [List.getElem?_map, s2, hy2]; rfl
  have := hw t.data.toList.length (by
    simp only [DataW.weights, Try.underlying31]
    exact DataW.weights_mem_each (j := 2) (t := 9) rfl hp _ (by simp [DataW.weights]))
  rw [Array.length_toList] at this
  exact this
theorem open_ed {W : World} {v : Value} {d : DataW H} {p : List MemPlace} {r : Reach} {b0 : Nat} (hv : Value.okWide Try.prog W r b0 31 v) (h : DataW.Trod enc Try.prog W 0 (fun _ => true) true 31 v d p)
    (hw : ∀ n ∈ d.weights Try.prog 31, n ≤ reachBytes) : ∃ (a b : Int) (t : ByteArray), v = .agg #[.int .i64 a, .int .i64 b, .string t] ∧ t.size ≤ reachBytes := by
  obtain ⟨v0, v1, v2, y0, y1, y2, n, rfl, rfl, _, h0, h1, h2⟩ := open_agg3 Try.underlying31 (by kernel_rfl) cells_ed hv h
  obtain ⟨a, e0, _, _⟩ := DataW.trod_int Try.underlying3 h0
  obtain ⟨b, e1, _, _⟩ := DataW.trod_int Try.underlying3 h1
  obtain ⟨t, e2, hy2, _⟩ := DataW.trod_string Try.underlying9 h2
  simp at e0 e1 e2
  subst e0; subst e1; subst e2
  refine ⟨a, b, t, rfl, ?_⟩
  have := hw t.data.toList.length (by
    simp only [DataW.weights, Try.underlying31]
    refine DataW.weights_mem_each (j := 2) (t := 9) (d := .lit (.string t.data.toList)) rfl (by rw [hy2]; rfl) _ (by simp [DataW.weights]))
  rw [Array.length_toList] at this
  exact this
theorem open_sts {W : World} {v : Value} {d : DataW H} {p : List MemPlace} {r : Reach} {b0 : Nat} (hv : Value.okWide Try.prog W r b0 22 v) (h : DataW.Trod enc Try.prog W 0 (fun _ => true) true 22 v d p)
    (hw : ∀ n ∈ d.weights Try.prog 22, n ≤ reachBytes) :
    ∃ A len cap l, v = .slice A len cap ∧ Reads W W.heap.size 4 A len (sts l) ∧ len ≤ cap ∧ cap ≤ maxLen ∧ ∀ t ∈ l, t.e.ins.size ≤ reachBytes := by
  obtain ⟨a0, len0, cap0, rfl⟩ := okWide_slice Try.underlying22 hv
  obtain ⟨fuel, hf⟩ := h
  rcases open_slice Try.underlying22 hf with ⟨hcs, _⟩ | ⟨a, len, cap, m, n, D, Pl, hcs, _, hl, hm, hmm, hx, hi⟩
  · simp [Value.cells] at hcs
    obtain ⟨rfl, rfl, rfl⟩ := hcs
    exact ⟨none, 0, 0, [], rfl, Reads.nil_, Nat.le_refl _, by unfold maxLen; omega, by simp⟩
  · simp [Value.cells] at hcs
    obtain ⟨rfl, rfl, rfl⟩ := hcs
    simp only [if_true] at hmm
    subst hmm
    simp only [Prod.mk.injEq] at hx
    obtain ⟨rfl, _⟩ := hx
    have each : ∀ i : Fin len0, ∃ t : St, W.cell? (a.add (i * 4 + 0)) = some (.int .u8 t.k) ∧ W.cell? (a.add (i * 4 + 1)) = some (.int .i64 t.e.pos) ∧ W.cell? (a.add (i * 4 + 2)) = some (.int .i64 t.e.del) ∧
        W.cell? (a.add (i * 4 + 3)) = some (.string t.e.ins) ∧ t.e.ins.size ≤ reachBytes := by
      intro i
      obtain ⟨cs', hc, ht'⟩ := hi i.1 (by have := i.2; omega)
      rw [cells_st] at hc
      obtain ⟨_, hcl, hat⟩ := World.cells?_some hc
      match cs', hcl with
      | [u0, u1, u2, u3], _ =>
      have a0 := hat 0 (by omega)
      have a1 := hat 1 (by omega)
      have a2 := hat 2 (by omega)
      have a3 := hat 3 (by omega)
      rw [Go.Deep.add_add] at a0 a1 a2 a3
      obtain ⟨ys, n', hn', hy, hlen, hyl, hf⟩ := DataW.trod_struct Try.underlying36 ht'
      simp only [Prod.mk.injEq] at hy
      have g0 : DataW.trod enc Try.prog W 0 (fun _ => true) true n' 5 (List.take (Try.prog.cellsOf 5) [u0, u1, u2, u3]) = ys[0]? := hf 0 _ rfl
      have g1 : DataW.trod enc Try.prog W 0 (fun _ => true) true n' 31 (List.take (Try.prog.cellsOf 31) [u1, u2, u3]) = ys[1]? := hf 1 _ rfl
      have s0 := List.getElem?_eq_getElem (l := ys) (i := 0) (by rw [hyl]; decide)
      have s1 := List.getElem?_eq_getElem (l := ys) (i := 1) (by rw [hyl]; decide)
      rw [s0] at g0
      rw [s1] at g1
      simp only [cells_u8, cells_ed, List.take_succ_cons, List.take_zero] at g0 g1
      obtain ⟨k, e0, _, wk⟩ := DataW.trod_int Try.underlying5 g0
      obtain ⟨x1, x2, x3, e1, e2, e3, hwt⟩ := trod_ed g1
      simp at e0
      subst e0; subst e1; subst e2; subst e3
      have hk := bounds_u8 wk
      obtain ⟨k', rfl⟩ := Int.eq_ofNat_of_zero_le hk.1
      refine ⟨⟨k', ⟨x1, x2, x3⟩⟩, a0, a1, a2, a3, hwt fun n hn => ?_⟩
      have hp : (ys.map (·.1))[1]? = some (ys[1]'(by rw [hyl]; decide)).1 := by rw [List.getElem?_map, s1]; rfl
      have hmem : n ∈ (D i.1).weights Try.prog 36 := by
        rw [hy.1]
        simp only [DataW.weights, Try.underlying36]
        exact DataW.weights_mem_each (j := 1) (t := 31) rfl hp _ hn
      refine hw n ?_
      simp only [DataW.weights, Try.underlying22]
      refine List.mem_cons_of_mem _ (List.mem_append_left _ (weightsAll_mem (i := i.1) (d := D i.1) ?_ _ hmem))
      rw [List.getElem?_map, List.getElem?_range i.2]
      rfl
    let q : Fin len0 → St := fun i => Classical.choose (each i)
    have hq := fun i => Classical.choose_spec (each i)
    refine ⟨some a, len0, _, List.ofFn q, rfl, reads_of (by omega) (by rw [sts_length]; simp) ?_, by omega, by omega, ?_⟩
    · intro j u hu
      have hj : j < len0 * 4 := by
        have := (List.getElem?_eq_some_iff.1 hu).1
        rw [sts_length] at this
        simpa using this
      have hdiv : j / 4 < len0 := by omega
      have ht : (List.ofFn q)[j / 4]? = some (q ⟨j / 4, hdiv⟩) := by rw [List.getElem?_ofFn, dif_pos hdiv]
      have h4 := sts_at (List.ofFn q) (j / 4) _ (j % 4) ht (Nat.mod_lt _ (by omega))
      rw [show j / 4 * 4 + j % 4 = j by omega, hu] at h4
      obtain ⟨r0, r1, r2, r3, _⟩ := hq ⟨j / 4, hdiv⟩
      simp only at r0 r1 r2 r3
      have hj4 : j % 4 < 4 := Nat.mod_lt _ (by omega)
      rcases (show j % 4 = 0 ∨ j % 4 = 1 ∨ j % 4 = 2 ∨ j % 4 = 3 by omega) with h | h | h | h
      · rw [h] at h4; rw [show j = j / 4 * 4 + 0 by omega, r0]; simpa [St.cells] using h4.symm
      · rw [h] at h4; rw [show j = j / 4 * 4 + 1 by omega, r1]; simpa [St.cells] using h4.symm
      · rw [h] at h4; rw [show j = j / 4 * 4 + 2 by omega, r2]; simpa [St.cells] using h4.symm
      · rw [h] at h4; rw [show j = j / 4 * 4 + 3 by omega, r3]; simpa [St.cells] using h4.symm
    · intro t ht
      obtain ⟨i, rfl⟩ := List.mem_ofFn.1 ht
      exact (hq i).2.2.2.2
theorem open_strb {W : World} {v : Value} {d : DataW H} {p : List MemPlace} {r : Reach} {b0 : Nat} (hv : Value.okWide Try.prog W r b0 9 v) (h : DataW.Trod enc Try.prog W 0 (fun _ => true) true 9 v d p)
    (hw : ∀ n ∈ d.weights Try.prog 9, n ≤ reachBytes) : ∃ t : ByteArray, v = .string t ∧ t.size ≤ reachBytes := by
  obtain ⟨s, rfl, rfl, _, hs⟩ := ChangeMaps.open_string Try.underlying9 hv h
  refine ⟨s, rfl, ?_⟩
  have := hw s.data.toList.length (by simp [DataW.weights])
  rw [Array.length_toList] at this
  exact this
end
end Go.Proofs.Ytepohmklbfkdfaa
