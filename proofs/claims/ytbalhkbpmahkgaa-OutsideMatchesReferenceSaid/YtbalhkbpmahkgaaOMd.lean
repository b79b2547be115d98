/- Hypergraphs and derivations among the arguments. -/
import Derived.Test.YtbalhkbpmahkgaaOMa
import Derived.Test.YtbalhkbpmahkgaaOMc
namespace Go.Proofs.Ytbalhkbpmahkgaa
open Go.RowKit Go.ChangeShapes Go.WideShapes Go.ChangeAt Go.Joins Go.Deep
set_option maxRecDepth 100000

theorem cells_he : Try.prog.cellsOf 48 = 5 := by kernel_rfl
theorem cells_hg : Try.prog.cellsOf 24 = 2 := by kernel_rfl
theorem cells_vl : Try.prog.cellsOf 38 = 2 := by kernel_rfl
theorem cells_tl : Try.prog.cellsOf 28 = 1 := by kernel_rfl
theorem cells_lb : Try.prog.cellsOf 46 = 2 := by kernel_rfl
section
variable {H : Type} {enc : TypeId × Value → H}
theorem trod_two {w : World} {base : Nat} {spare : Nat → Bool} {held : Bool} {fuel : Nat} {c0 c1 : Value} {x : DataW H × List MemPlace} (h : DataW.trod enc Try.prog w base spare held fuel 46 [c0, c1] = some x) :
    ∃ a b : Int, c0 = .int .i64 a ∧ c1 = .int .i64 b := by
  obtain ⟨ys, m, _, hx, _, hyl, hf⟩ := DataW.trod_array Try.underlying46 h
  have g0 := hf 0 (by decide)
  have g1 := hf 1 (by decide)
  rw [cells_int] at g0 g1
  rw [List.getElem?_eq_getElem (by rw [hyl]; decide)] at g0 g1
  simp only [List.drop_zero, List.take_succ_cons, List.take_zero, Nat.zero_mul, Nat.one_mul, List.drop_succ_cons] at g0 g1
  obtain ⟨x, e0, _, w0⟩ := DataW.trod_int Try.underlying3 g0
  obtain ⟨y, e1, _, w1⟩ := DataW.trod_int Try.underlying3 g1
  simp at e0 e1
  exact ⟨x, y, e0, e1⟩
theorem trod_he {w : World} {sp : Nat → Bool} {held : Bool} {fuel : Nat} {c0 c1 c2 c3 c4 : Value} {x : DataW H × List MemPlace} (h : DataW.trod enc Try.prog w 0 sp held fuel 48 [c0, c1, c2, c3, c4] = some x) :
    ∃ e : Ed, [c0, c1, c2, c3, c4] = e.cells ∧ Reads w w.heap.size 1 e.A e.ts.length (ints e.ts) ∧ e.ts.length ≤ maxLen := by
  obtain ⟨ys, n, _, _, _, hyl, hf⟩ := DataW.trod_struct Try.underlying48 h
  have g0 : DataW.trod enc Try.prog w 0 sp held n 3 (List.take (Try.prog.cellsOf 3) [c0, c1, c2, c3, c4]) = ys[0]? := hf 0 _ rfl
  have g1 : DataW.trod enc Try.prog w 0 sp held n 28 (List.take (Try.prog.cellsOf 28) [c1, c2, c3, c4]) = ys[1]? := hf 1 _ rfl
  have g2 : DataW.trod enc Try.prog w 0 sp held n 3 (List.take (Try.prog.cellsOf 3) [c2, c3, c4]) = ys[2]? := hf 2 _ rfl
  have g3 : DataW.trod enc Try.prog w 0 sp held n 46 (List.take (Try.prog.cellsOf 46) [c3, c4]) = ys[3]? := hf 3 _ rfl
  rw [List.getElem?_eq_getElem (by rw [hyl]; decide)] at g0 g1 g2 g3
  simp only [cells_int, cells_tl, cells_lb, List.take_succ_cons, List.take_zero] at g0 g1 g2 g3
  obtain ⟨a, e0, _, _⟩ := DataW.trod_int Try.underlying3 g0
  obtain ⟨A, n1, c, l, e1, hr, hl⟩ := open_ints_reads g1
  obtain ⟨b, e2, _, _⟩ := DataW.trod_int Try.underlying3 g2
  obtain ⟨x0, x1, e3, e4⟩ := trod_two g3
  simp at e0 e2
  have hln := hr.len_ints
  subst hln e0 e1 e2 e3 e4
  exact ⟨⟨a, l, b, x0, x1, A, c⟩, rfl, hr, hl⟩
theorem open_eds5 {W : World} {sp : Nat → Bool} {held : Bool} {fuel : Nat} {v0 : Value} {y : DataW H × List MemPlace} (h : DataW.trod enc Try.prog W 0 sp held fuel 22 [v0] = some y) :
    ∃ (A : Option Addr) (c : Nat) (es : List Ed), v0 = .slice A es.length c ∧ HG W W.heap.size A es.length es ∧ es.length ≤ c ∧ c ≤ maxLen := by
  rcases open_slice Try.underlying22 h with ⟨hcs, _⟩ | ⟨a, len, cap, m, n, D, Pl, hcs, _, hl, hm, hmm, hx, hi⟩
  · simp at hcs
    subst hcs
    exact ⟨none, 0, [], rfl, ⟨Reads.nil_, by simp⟩, Nat.le_refl _, by unfold maxLen; omega⟩
  · simp at hcs
    subst hcs
    have hml : len ≤ m := by rw [hmm]; split <;> omega
    have each : ∀ i : Fin len, ∃ e : Ed, (∀ j, j < 5 → W.cell? (a.add (i * 5 + j)) = e.cells[j]?) ∧ Reads W W.heap.size 1 e.A e.ts.length (ints e.ts) := by
      intro i
      obtain ⟨cs', hc, ht'⟩ := hi i.1 (by have := i.2; omega)
      rw [cells_he] at hc
      obtain ⟨_, hcl, hat⟩ := World.cells?_some hc
      match cs', hcl with
      | [u0, u1, u2, u3, u4], _ =>
      obtain ⟨e, he, hr, _⟩ := trod_he ht'
      refine ⟨e, fun j hj => ?_, hr⟩
      have := hat j hj
      rw [Go.Deep.add_add] at this
      rw [this, he]
    let q : Fin len → Ed := fun i => Classical.choose (each i)
    have hq := fun i => Classical.choose_spec (each i)
    refine ⟨some a, cap, List.ofFn q, by simp, ⟨reads_of (by omega) (by rw [eds_length]) ?_, fun e he => ?_⟩, by simpa using hl, hm⟩
    · intro j u hu
      have hj : j < len * 5 := by
        have := (List.getElem?_eq_some_iff.1 hu).1
        rw [eds_length] at this
        simpa using this
      have hdiv : j / 5 < len := by omega
      have ht : (List.ofFn q)[j / 5]? = some (q ⟨j / 5, hdiv⟩) := by rw [List.getElem?_ofFn, dif_pos hdiv]
      have h4 := eds_at (List.ofFn q) (j / 5) _ (j % 5) ht (Nat.mod_lt _ (by omega))
      rw [show j / 5 * 5 + j % 5 = j by omega, hu] at h4
      have h5 := (hq ⟨j / 5, hdiv⟩).1 (j % 5) (Nat.mod_lt _ (by omega))
      simp only at h5
      rw [show j / 5 * 5 + j % 5 = j by omega] at h5
      rw [h5]
      exact h4.symm
    · obtain ⟨i, rfl⟩ := List.mem_ofFn.1 he
      exact (hq i).2
theorem open_hg {W : World} {r : Reach} {b0 : Nat} {v : Value} {d : DataW H} {p : List MemPlace} (hv : Value.okWide Try.prog W r b0 24 v) (h : DataW.Trod enc Try.prog W 0 (fun _ => true) true 24 v d p) :
    ∃ (Z : Int) (A : Option Addr) (c : Nat) (es : List Ed), v = .agg #[.int .i64 Z, .slice A es.length c] ∧ HG W W.heap.size A es.length es ∧ es.length ≤ c ∧ c ≤ maxLen := by
  obtain ⟨v0, v1, y0, y1, n, rfl, _, _, h0, h1⟩ := open_agg2 Try.underlying24 (by kernel_rfl) cells_hg hv h
  obtain ⟨a, e0, _, _⟩ := DataW.trod_int Try.underlying3 h0
  obtain ⟨A, c, es, e1, hr, hl, hc⟩ := open_eds5 h1
  simp at e0
  subst e0 e1
  exact ⟨a, A, c, es, rfl, hr, hl, hc⟩
theorem open_vl {W : World} {r : Reach} {b0 : Nat} {v : Value} {d : DataW H} {p : List MemPlace} (hv : Value.okWide Try.prog W r b0 38 v) (h : DataW.Trod enc Try.prog W 0 (fun _ => true) true 38 v d p) :
    ∃ x : Vl, v = .agg #[.int .i64 x.c, .int .i64 x.s] := by
  obtain ⟨v0, v1, y0, y1, n, rfl, _, _, h0, h1⟩ := open_agg2 Try.underlying38 (by kernel_rfl) cells_vl hv h
  obtain ⟨a, e0, _, _⟩ := DataW.trod_int Try.underlying3 h0
  obtain ⟨b, e1, _, _⟩ := DataW.trod_int Try.underlying3 h1
  simp at e0 e1
  subst e0 e1
  exact ⟨⟨a, b⟩, rfl⟩
theorem open_vls {W : World} {r : Reach} {b0 : Nat} {v : Value} {d : DataW H} {p : List MemPlace} (hv : Value.okWide Try.prog W r b0 43 v) (h : DataW.Trod enc Try.prog W 0 (fun _ => true) true 43 v d p) :
    ∃ (A : Option Addr) (n c : Nat) (l : List Vl), v = .slice A n c ∧ Reads W W.heap.size 2 A n (vls l) ∧ n ≤ c ∧ c ≤ maxLen := by
  obtain ⟨a0, len0, cap0, rfl⟩ := okWide_slice Try.underlying43 hv
  obtain ⟨fuel, hf⟩ := h
  rcases open_slice Try.underlying43 hf with ⟨hcs, _⟩ | ⟨a, len, cap, m, n, D, Pl, hcs, _, hl, hm, hmm, hx, hi⟩
  · simp [Value.cells] at hcs
    obtain ⟨rfl, rfl, rfl⟩ := hcs
    exact ⟨none, 0, 0, [], rfl, Reads.nil_, Nat.le_refl _, by unfold maxLen; omega⟩
  · simp [Value.cells] at hcs
    obtain ⟨rfl, rfl, rfl⟩ := hcs
    have hml : len0 ≤ m := by rw [hmm]; split <;> omega
    have each : ∀ i : Fin len0, ∃ x : Vl, ∀ j, j < 2 → W.cell? (a.add (i * 2 + j)) = x.cells[j]? := by
      intro i
      obtain ⟨cs', hc, ht'⟩ := hi i.1 (by have := i.2; omega)
      rw [cells_vl] at hc
      obtain ⟨_, hcl, hat⟩ := World.cells?_some hc
      match cs', hcl with
      | [u0, u1], _ =>
      obtain ⟨ys, n', _, _, _, hyl, hf⟩ := DataW.trod_struct Try.underlying38 ht'
      have g0 : DataW.trod enc Try.prog W 0 (fun _ => true) true n' 3 (List.take (Try.prog.cellsOf 3) [u0, u1]) = ys[0]? := hf 0 _ rfl
      have g1 : DataW.trod enc Try.prog W 0 (fun _ => true) true n' 3 (List.take (Try.prog.cellsOf 3) [u1]) = ys[1]? := hf 1 _ rfl
      rw [List.getElem?_eq_getElem (by rw [hyl]; decide)] at g0 g1
      simp only [cells_int, List.take_succ_cons, List.take_zero] at g0 g1
      obtain ⟨x, e0, _, _⟩ := DataW.trod_int Try.underlying3 g0
      obtain ⟨y, e1, _, _⟩ := DataW.trod_int Try.underlying3 g1
      simp at e0 e1
      subst e0 e1
      refine ⟨⟨x, y⟩, fun j hj => ?_⟩
      have := hat j hj
      rw [Go.Deep.add_add] at this
      rw [this]
      rfl
    let q : Fin len0 → Vl := fun i => Classical.choose (each i)
    have hq := fun i => Classical.choose_spec (each i)
    refine ⟨some a, len0, cap0, List.ofFn q, rfl, reads_of (by omega) (by rw [vls_length]; simp) ?_, hl, hm⟩
    intro j u hu
    have hj : j < len0 * 2 := by
      have := (List.getElem?_eq_some_iff.1 hu).1
      rw [vls_length] at this
      simpa using this
    have hdiv : j / 2 < len0 := by omega
    have ht : (List.ofFn q)[j / 2]? = some (q ⟨j / 2, hdiv⟩) := by rw [List.getElem?_ofFn, dif_pos hdiv]
    have h4 := vls_at (List.ofFn q) (j / 2) _ (j % 2) ht (Nat.mod_lt _ (by omega))
    rw [show j / 2 * 2 + j % 2 = j by omega, hu] at h4
    have h5 := hq ⟨j / 2, hdiv⟩ (j % 2) (Nat.mod_lt _ (by omega))
    simp only at h5
    rw [show j / 2 * 2 + j % 2 = j by omega] at h5
    rw [h5]
    exact h4.symm
end
end Go.Proofs.Ytbalhkbpmahkgaa

namespace Go.Proofs.Ytbalhkbpmahkgaa
open Go.RowKit Go.ChangeShapes Go.WideShapes Go.ChangeAt Go.Joins Go.Deep

def prs (l : List (Value × Value)) : List Value := l.flatMap fun p => [p.1, p.2]
theorem prs_length : ∀ l : List (Value × Value), (prs l).length = l.length * 2
  | [] => rfl
  | a :: l => by simp [prs] at *; have := prs_length l; simp [prs] at this; omega
theorem prs_at : ∀ (l : List (Value × Value)) (k : Nat) (p : Value × Value), l[k]? = some p → (prs l)[k * 2]? = some p.1 ∧ (prs l)[k * 2 + 1]? = some p.2
  | [], k, p, h => by simp at h
  | a :: l, 0, p, h => by simp at h; subst h; simp [prs]
  | a :: l, k + 1, p, h => by
    have := prs_at l k p (by simpa using h)
    rw [show (k + 1) * 2 = k * 2 + 1 + 1 by omega]
    simpa [prs] using this
/-- The two cells of a derivation of that depth at most. -/
def Dvs (w : World) (B : Nat) : Nat → Value → Value → Prop
  | 0, _, _ => False
  | n + 1, v0, v1 => ∃ (e : Int) (A : Option Addr) (c : Nat) (l : List (Value × Value)), v0 = .int .i64 e ∧ v1 = .slice A l.length c ∧ l.length ≤ maxLen ∧ Reads w B 2 A l.length (prs l) ∧ ∀ p ∈ l, Dvs w B n p.1 p.2
theorem Dvs.below {w w' : World} {B B' : Nat} (hb : Below B' w w') (hB : B ≤ B') : ∀ {n : Nat} {v0 v1 : Value}, Dvs w B n v0 v1 → Dvs w' B n v0 v1
  | 0, _, _, h => h.elim
  | n + 1, v0, v1, ⟨e, A, c, l, h0, h1, h2, h3, h4⟩ => ⟨e, A, c, l, h0, h1, h2, h3.below (hb.mono hB), fun p hp => Dvs.below hb hB (h4 p hp)⟩
theorem Dvs.more {w : World} {B B' : Nat} (hB : B ≤ B') : ∀ {n : Nat} {v0 v1 : Value}, Dvs w B n v0 v1 → Dvs w B' n v0 v1
  | 0, _, _, h => h.elim
  | n + 1, v0, v1, ⟨e, A, c, l, h0, h1, h2, h3, h4⟩ => ⟨e, A, c, l, h0, h1, h2, h3.more hB, fun p hp => Dvs.more hB (h4 p hp)⟩
theorem Reads.pr_at {w : World} {B n : Nat} {A : Option Addr} {l : List (Value × Value)} (h : Reads w B 2 A n (prs l)) {k : Nat} {p : Value × Value} (hp : l[k]? = some p) :
    ∃ b off, A = some ⟨b, off, none⟩ ∧ b < B ∧ w.cell? ⟨b, off + k * 2, none⟩ = some p.1 ∧ w.cell? ⟨b, off + k * 2 + 1, none⟩ = some p.2 := by
  have hk : k < l.length := (List.getElem?_eq_some_iff.1 hp).1
  have hn := h.1
  rw [prs_length] at hn
  obtain ⟨b, off, e, hb, hc⟩ := h.2 (by omega)
  obtain ⟨q0, q1⟩ := prs_at l k p hp
  exact ⟨b, off, e, hb, hc _ _ q0, by rw [Nat.add_assoc]; exact hc _ _ q1⟩
theorem cells_dv : Try.prog.cellsOf 33 = 2 := by kernel_rfl
theorem cells_dvs : Try.prog.cellsOf 31 = 1 := by kernel_rfl
section
variable {H : Type} {enc : TypeId × Value → H}
theorem trod_dv {W : World} {sp : Nat → Bool} {held : Bool} : ∀ (k fuel : Nat) (v0 v1 : Value) (x : DataW H × List MemPlace), SizeOf.sizeOf x.1 ≤ k →
    DataW.trod enc Try.prog W 0 sp held fuel 33 [v0, v1] = some x → Dvs W W.heap.size (k + 1) v0 v1
  | 0, _, _, _, x, hk, _ => by
    rcases x with ⟨d, p⟩
    cases d <;> simp at hk
  | k + 1, fuel, v0, v1, x, hk, h => by
    obtain ⟨ys, n, _, hx, _, hyl, hf⟩ := DataW.trod_struct Try.underlying33 h
    have g0 : DataW.trod enc Try.prog W 0 sp held n 3 (List.take (Try.prog.cellsOf 3) [v0, v1]) = ys[0]? := hf 0 _ rfl
    have g1 : DataW.trod enc Try.prog W 0 sp held n 31 (List.take (Try.prog.cellsOf 31) [v1]) = ys[1]? := hf 1 _ rfl
    have hy1 : 1 < ys.length := by rw [hyl]; decide
    rw [List.getElem?_eq_getElem (by omega)] at g0 g1
    simp only [cells_int, cells_dvs, List.take_succ_cons, List.take_zero] at g0 g1
    obtain ⟨a, e0, _, _⟩ := DataW.trod_int Try.underlying3 g0
    simp at e0
    subst e0
    have hs1 : SizeOf.sizeOf ys[1].1 < SizeOf.sizeOf x.1 := by
      rw [hx]
      have := List.sizeOf_lt_of_mem (List.mem_map_of_mem (f := fun z => z.1) (List.getElem_mem hy1))
      simp
      omega
    rcases open_slice Try.underlying31 g1 with ⟨hcs, _⟩ | ⟨b, len, cap, m, n', D, Pl, hcs, _, hl, hm, hmm, hx1, hi⟩
    · simp at hcs
      subst hcs
      exact ⟨a, none, 0, [], rfl, rfl, by simp [maxLen], Reads.nil_, by simp⟩
    · simp at hcs
      subst hcs
      have hml : len ≤ m := by rw [hmm]; split <;> omega
      have each : ∀ i : Fin len, ∃ q : Value × Value, (∀ j u, [q.1, q.2][j]? = some u → W.cell? (b.add (i * 2 + j)) = some u) ∧ Dvs W W.heap.size (k + 1) q.1 q.2 := by
        intro i
        obtain ⟨cs', hc, ht'⟩ := hi i.1 (by have := i.2; omega)
        rw [cells_dv] at hc
        obtain ⟨_, hcl, hat⟩ := World.cells?_some hc
        match cs', hcl with
        | [u0, u1], _ =>
        have hsz : SizeOf.sizeOf (D i.1) < SizeOf.sizeOf ys[1].1 := by
          rw [hx1]
          have := List.sizeOf_lt_of_mem (List.mem_map_of_mem (f := D) (List.mem_range.2 i.2))
          simp
          omega
        refine ⟨(u0, u1), fun j u hj => ?_, trod_dv k _ u0 u1 _ (by simp; omega) ht'⟩
        have hj2 : j < 2 := by
          have := (List.getElem?_eq_some_iff.1 hj).1
          simpa using this
        have := hat j hj2
        rw [Go.Deep.add_add] at this
        rw [this]
        exact hj
      let q : Fin len → Value × Value := fun i => Classical.choose (each i)
      have hq := fun i => Classical.choose_spec (each i)
      have hql : (List.ofFn q).length = len := by simp
      refine ⟨a, some b, cap, List.ofFn q, rfl, by rw [hql], by rw [hql]; omega, reads_of (by omega) (by rw [prs_length]) ?_, fun p hp => ?_⟩
      · intro j u hu
        have hj : j < len * 2 := by
          have := (List.getElem?_eq_some_iff.1 hu).1
          rw [prs_length, hql] at this
          exact this
        have hdiv : j / 2 < len := by omega
        have ht : (List.ofFn q)[j / 2]? = some (q ⟨j / 2, hdiv⟩) := by rw [List.getElem?_ofFn, dif_pos hdiv]
        obtain ⟨p0, p1⟩ := prs_at _ _ _ ht
        have h5 := (hq ⟨j / 2, hdiv⟩).1 (j % 2) u
        simp only at h5
        rw [show j / 2 * 2 + j % 2 = j by omega] at h5
        refine h5 ?_
        rcases (show j % 2 = 0 ∨ j % 2 = 1 by omega) with h0 | h0
        · rw [show j / 2 * 2 = j by omega, hu] at p0
          rw [h0]
          exact p0.symm
        · rw [show j / 2 * 2 + 1 = j by omega, hu] at p1
          rw [h0]
          exact p1.symm
      · obtain ⟨i, rfl⟩ := List.mem_ofFn.1 hp
        exact (hq i).2
theorem open_dv {W : World} {r : Reach} {b0 : Nat} {v : Value} {d : DataW H} {p : List MemPlace} (hv : Value.okWide Try.prog W r b0 33 v) (h : DataW.Trod enc Try.prog W 0 (fun _ => true) true 33 v d p) :
    ∃ (v0 v1 : Value) (n : Nat), v = .agg #[v0, v1] ∧ Dvs W W.heap.size n v0 v1 := by
  obtain ⟨cs, rfl, hsz⟩ := okWide_struct Try.underlying33 hv
  obtain ⟨c0, c1, rfl⟩ := array2 (hsz.trans cells_dv)
  obtain ⟨fuel, hf⟩ := h
  exact ⟨c0, c1, _, rfl, trod_dv (SizeOf.sizeOf d) fuel c0 c1 (d, p) (Nat.le_refl _) hf⟩
end
end Go.Proofs.Ytbalhkbpmahkgaa
