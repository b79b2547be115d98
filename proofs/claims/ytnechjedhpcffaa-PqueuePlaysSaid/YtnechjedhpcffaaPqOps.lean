/- Operations as data, in memory, among the arguments. -/
import Derived.Test.YtnechjedhpcffaaPqRPop
import Derived.Test.YtnechjedhpcffaaOpen
namespace Go.Proofs.Ytnechjedhpcffaa
open Go.RowKit Go.ChangeShapes Go.WideShapes Go.ChangeAt Go.Joins Go.Deep

structure Opn where
  k : Int
  h : Int
  x0 : Int
  x1 : Int
def Opn.cells (o : Opn) : List Value := [.int .i64 o.k, .int .i64 o.h, .int .i64 o.x0, .int .i64 o.x1]
def opns (l : List Opn) : List Value := l.flatMap Opn.cells
theorem opns_length (l : List Opn) : (opns l).length = l.length * 4 := by
  induction l with
  | nil => rfl
  | cons t l ih => simp only [opns, List.flatMap_cons, List.length_append] at *; rw [ih]; simp [Opn.cells]; omega
theorem opns_at : ∀ (l : List Opn) (k : Nat) (t : Opn) (j : Nat), l[k]? = some t → j < 4 → (opns l)[k * 4 + j]? = t.cells[j]?
  | [], _, _, _, h, _ => by simp at h
  | x :: l, 0, t, j, h, hj => by
    simp at h
    subst h
    simp only [opns, List.flatMap_cons]
    rw [List.getElem?_append_left (by simp [Opn.cells]; omega)]
    simp
  | x :: l, k + 1, t, j, h, hj => by
    simp at h
    have := opns_at l k t j h hj
    simp only [opns, List.flatMap_cons] at *
    rw [List.getElem?_append_right (by simp [Opn.cells]; omega)]
    rw [← this]
    congr 1
    simp [Opn.cells]; omega
section
variable {w : World} {B n : Nat} {A : Option Addr} {l : List Opn}
theorem Reads.len_opns (h : Reads w B 4 A n (opns l)) : l.length = n := by have := h.1; rw [opns_length] at this; omega
theorem Reads.opn_at (h : Reads w B 4 A n (opns l)) {k : Nat} (hk : k < n) :
    ∃ b off t, A = some ⟨b, off, none⟩ ∧ b < B ∧ l[k]? = some t ∧ w.cell? ⟨b, off + k * 4, none⟩ = some (.int .i64 t.k) ∧ w.cell? ⟨b, off + k * 4 + 1, none⟩ = some (.int .i64 t.h) ∧ w.cell? ⟨b, off + k * 4 + 2, none⟩ = some (.int .i64 t.x0) ∧ w.cell? ⟨b, off + k * 4 + 3, none⟩ = some (.int .i64 t.x1) := by
  obtain ⟨b, off, e, hb, hc⟩ := h.2 (by omega)
  have hl : k < l.length := by rw [h.len_opns]; exact hk
  have ht := List.getElem?_eq_getElem hl
  refine ⟨b, off, l[k], e, hb, ht, ?_, ?_, ?_, ?_⟩
  · have := hc (k * 4 + 0) (.int .i64 l[k].k) (by rw [opns_at l k _ 0 ht (by omega)]; rfl)
    simpa using this
  · have := hc (k * 4 + 1) (.int .i64 l[k].h) (by rw [opns_at l k _ 1 ht (by omega)]; rfl)
    simpa [Nat.add_assoc] using this
  · have := hc (k * 4 + 2) (.int .i64 l[k].x0) (by rw [opns_at l k _ 2 ht (by omega)]; rfl)
    simpa [Nat.add_assoc] using this
  · have := hc (k * 4 + 3) (.int .i64 l[k].x1) (by rw [opns_at l k _ 3 ht (by omega)]; rfl)
    simpa [Nat.add_assoc] using this
end
theorem cells_opn : Try.prog.cellsOf 43 = 4 := by kernel_rfl
theorem cells_elem : Try.prog.cellsOf 27 = 2 := by kernel_rfl
section
variable {H : Type} {enc : TypeId × Value → H}
theorem open_opns {W : World} {r : Reach} {b0 : Nat} {v : Value} {d : DataW H} {p : List MemPlace} (hv : Value.okWide Try.prog W r b0 37 v) (h : DataW.Trod enc Try.prog W 0 (fun _ => true) true 37 v d p) :
    ∃ (A : Option Addr) (n c : Nat) (l : List Opn), v = .slice A n c ∧ Reads W W.heap.size 4 A n (opns l) ∧ n ≤ maxLen ∧ ∀ o ∈ l, (Lit.int .i64 o.h).wf = true := by
  obtain ⟨a0, len0, cap0, rfl⟩ := okWide_slice Try.underlying37 hv
  obtain ⟨fuel, hf⟩ := h
  rcases open_slice Try.underlying37 hf with ⟨hcs, _⟩ | ⟨a, len, cap, m, n, D, Pl, hcs, _, hl, hm, hmm, hx, hi⟩
  · simp [Value.cells] at hcs
    obtain ⟨rfl, rfl, rfl⟩ := hcs
    exact ⟨none, 0, 0, [], rfl, Reads.nil_, by unfold maxLen; omega, by simp⟩
  · simp [Value.cells] at hcs
    obtain ⟨rfl, rfl, rfl⟩ := hcs
    have hml : len0 ≤ m := by rw [hmm]; split <;> omega
    have each : ∀ i : Fin len0, ∃ x : Opn, (∀ j, j < 4 → W.cell? (a.add (i * 4 + j)) = x.cells[j]?) ∧ (Lit.int .i64 x.h).wf = true := by
      intro i
      obtain ⟨cs', hc, ht'⟩ := hi i.1 (by have := i.2; omega)
      rw [cells_opn] at hc
      obtain ⟨_, hcl, hat⟩ := World.cells?_some hc
      match cs', hcl with
      | [u0, u1, u2, u3], _ =>
      obtain ⟨ys, n', _, _, _, hyl, hf⟩ := DataW.trod_struct Try.underlying43 ht'
      have g0 : DataW.trod enc Try.prog W 0 (fun _ => true) true n' 3 (List.take (Try.prog.cellsOf 3) [u0, u1, u2, u3]) = ys[0]? := hf 0 _ rfl
      have g1 : DataW.trod enc Try.prog W 0 (fun _ => true) true n' 3 (List.take (Try.prog.cellsOf 3) [u1, u2, u3]) = ys[1]? := hf 1 _ rfl
      have g2 : DataW.trod enc Try.prog W 0 (fun _ => true) true n' 27 (List.take (Try.prog.cellsOf 27) [u2, u3]) = ys[2]? := hf 2 _ rfl
      rw [List.getElem?_eq_getElem (by rw [hyl]; decide)] at g0 g1 g2
      simp only [cells_int, cells_elem, List.take_succ_cons, List.take_zero] at g0 g1 g2
      obtain ⟨k, e0, _, _⟩ := DataW.trod_int Try.underlying3 g0
      obtain ⟨hh, e1, _, wf⟩ := DataW.trod_int Try.underlying3 g1
      obtain ⟨zs, n2, _, _, _, hzl, hf2⟩ := DataW.trod_struct Try.underlying27 g2
      have q0 : DataW.trod enc Try.prog W 0 (fun _ => true) true n2 3 (List.take (Try.prog.cellsOf 3) [u2, u3]) = zs[0]? := hf2 0 _ rfl
      have q1 : DataW.trod enc Try.prog W 0 (fun _ => true) true n2 3 (List.take (Try.prog.cellsOf 3) [u3]) = zs[1]? := hf2 1 _ rfl
      rw [List.getElem?_eq_getElem (by rw [hzl]; decide)] at q0 q1
      simp only [cells_int, List.take_succ_cons, List.take_zero] at q0 q1
      obtain ⟨x, e2, _, _⟩ := DataW.trod_int Try.underlying3 q0
      obtain ⟨y, e3, _, _⟩ := DataW.trod_int Try.underlying3 q1
      simp at e0 e1 e2 e3
      subst e0 e1 e2 e3
      refine ⟨⟨k, hh, x, y⟩, fun j hj => ?_, wf⟩
      have := hat j hj
      rw [Go.Deep.add_add] at this
      rw [this]
      rfl
    let q : Fin len0 → Opn := fun i => Classical.choose (each i)
    have hq := fun i => Classical.choose_spec (each i)
    refine ⟨some a, len0, cap0, List.ofFn q, rfl, reads_of (by omega) (by rw [opns_length]; simp) ?_, by omega, fun o ho => ?_⟩
    · intro j u hu
      have hj : j < len0 * 4 := by
        have := (List.getElem?_eq_some_iff.1 hu).1
        rw [opns_length] at this
        simpa using this
      have hdiv : j / 4 < len0 := by omega
      have ht : (List.ofFn q)[j / 4]? = some (q ⟨j / 4, hdiv⟩) := by rw [List.getElem?_ofFn, dif_pos hdiv]
      have h4 := opns_at (List.ofFn q) (j / 4) _ (j % 4) ht (Nat.mod_lt _ (by omega))
      rw [show j / 4 * 4 + j % 4 = j by omega, hu] at h4
      have h5 := (hq ⟨j / 4, hdiv⟩).1 (j % 4) (Nat.mod_lt _ (by omega))
      simp only at h5
      rw [show j / 4 * 4 + j % 4 = j by omega] at h5
      rw [h5]
      exact h4.symm
    · obtain ⟨i, rfl⟩ := List.mem_ofFn.1 ho
      exact (hq i).2
end
theorem run_neq_elem (w : World) (a b x y : Int) :
    (binOp .neq 27 (.agg #[.int .i64 a, .int .i64 b]) (.agg #[.int .i64 x, .int .i64 y])).run Try.prog w = .ok (.bool (!(decide (a = x) && decide (b = y)))) w := by
  simp only [binOp]
  by_cases h1 : a = x
  · by_cases h2 : b = y <;> simp [go_sem, Op.equal, Op.maxDepth, h1, h2]
  · simp [go_sem, Op.equal, Op.maxDepth, h1]
end Go.Proofs.Ytnechjedhpcffaa
