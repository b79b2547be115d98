/- Grammars among the arguments, opened. -/
import Derived.Test.YthakcefgbggkcaaDoorCMa
namespace Go.Proofs.YthakcefgbggkcaaDoor
open Go.RowKit Go.ChangeShapes Go.WideShapes Go.ChangeAt Go.Joins Go.Deep
set_option maxRecDepth 100000

theorem cells_rl : Tryd.prog.cellsOf 65 = 6 := by kernel_rfl
theorem cells_nm : Tryd.prog.cellsOf 24 = 4 := by kernel_rfl
section
variable {H : Type} {enc : TypeId × Value → H}
theorem trod_rl {w : World} {base : Nat} {spare : Nat → Bool} {held : Bool} {fuel : Nat} {cs : List Value} {x : DataW H × List MemPlace} (h : DataW.trod enc Tryd.prog w base spare held fuel 65 cs = some x) : ∃ e : Rl, cs = e.cells := by
  obtain ⟨ys, n, _, hx, hlen, hyl, hf⟩ := DataW.trod_struct Tryd.underlying65 h
  rw [cells_rl] at hlen
  match cs, hlen with
  | [c0, c1, c2, c3, c4, c5], _ =>
    have g0 : DataW.trod enc Tryd.prog w base spare held n 3 (List.take (Tryd.prog.cellsOf 3) [c0, c1, c2, c3, c4, c5]) = ys[0]? := hf 0 _ rfl
    have g1 : DataW.trod enc Tryd.prog w base spare held n 3 (List.take (Tryd.prog.cellsOf 3) [c1, c2, c3, c4, c5]) = ys[1]? := hf 1 _ rfl
    have g2 : DataW.trod enc Tryd.prog w base spare held n 3 (List.take (Tryd.prog.cellsOf 3) [c2, c3, c4, c5]) = ys[2]? := hf 2 _ rfl
    have g3 : DataW.trod enc Tryd.prog w base spare held n 3 (List.take (Tryd.prog.cellsOf 3) [c3, c4, c5]) = ys[3]? := hf 3 _ rfl
    have g4 : DataW.trod enc Tryd.prog w base spare held n 3 (List.take (Tryd.prog.cellsOf 3) [c4, c5]) = ys[4]? := hf 4 _ rfl
    have g5 : DataW.trod enc Tryd.prog w base spare held n 3 (List.take (Tryd.prog.cellsOf 3) [c5]) = ys[5]? := hf 5 _ rfl
    match ys, hyl with
    | [y0, y1, y2, y3, y4, y5], _ =>
      simp only [cells_int, List.take_succ_cons, List.take_zero, List.getElem?_cons_zero, List.getElem?_cons_succ] at g0 g1 g2 g3 g4 g5
      obtain ⟨a0, e0, _, _⟩ := DataW.trod_int Tryd.underlying3 g0
      obtain ⟨a1, e1, _, _⟩ := DataW.trod_int Tryd.underlying3 g1
      obtain ⟨a2, e2, _, _⟩ := DataW.trod_int Tryd.underlying3 g2
      obtain ⟨a3, e3, _, _⟩ := DataW.trod_int Tryd.underlying3 g3
      obtain ⟨a4, e4, _, _⟩ := DataW.trod_int Tryd.underlying3 g4
      obtain ⟨a5, e5, _, _⟩ := DataW.trod_int Tryd.underlying3 g5
      simp at e0 e1 e2 e3 e4 e5
      subst e0 e1 e2 e3 e4 e5
      exact ⟨⟨a0, a1, a2, a3, a4, a5⟩, rfl⟩
theorem cells_ar : Tryd.prog.cellsOf 68 = 5 := by kernel_rfl
theorem cells_la : Tryd.prog.cellsOf 28 = 3 := by kernel_rfl
theorem cells_ops : Tryd.prog.cellsOf 66 = 1 := by kernel_rfl
theorem trod_ar {w : World} {base : Nat} {spare : Nat → Bool} {held : Bool} {fuel : Nat} {cs : List Value} {x : DataW H × List MemPlace} (h : DataW.trod enc Tryd.prog w base spare held fuel 68 cs = some x) : ∃ e : Ar, cs = e.cells := by
  obtain ⟨ys, n, _, hx, hlen, hyl, hf⟩ := DataW.trod_struct Tryd.underlying68 h
  rw [cells_ar] at hlen
  match cs, hlen with
  | [c0, c1, c2, c3, c4], _ =>
    have g0 : DataW.trod enc Tryd.prog w base spare held n 3 (List.take (Tryd.prog.cellsOf 3) [c0, c1, c2, c3, c4]) = ys[0]? := hf 0 _ rfl
    have g1 : DataW.trod enc Tryd.prog w base spare held n 3 (List.take (Tryd.prog.cellsOf 3) [c1, c2, c3, c4]) = ys[1]? := hf 1 _ rfl
    have g2 : DataW.trod enc Tryd.prog w base spare held n 3 (List.take (Tryd.prog.cellsOf 3) [c2, c3, c4]) = ys[2]? := hf 2 _ rfl
    have g3 : DataW.trod enc Tryd.prog w base spare held n 3 (List.take (Tryd.prog.cellsOf 3) [c3, c4]) = ys[3]? := hf 3 _ rfl
    have g4 : DataW.trod enc Tryd.prog w base spare held n 66 (List.take (Tryd.prog.cellsOf 66) [c4]) = ys[4]? := hf 4 _ rfl
    match ys, hyl with
    | [y0, y1, y2, y3, y4], _ =>
      simp only [cells_int, cells_ops, List.take_succ_cons, List.take_zero, List.getElem?_cons_zero, List.getElem?_cons_succ] at g0 g1 g2 g3 g4
      obtain ⟨a0, e0, _, _⟩ := DataW.trod_int Tryd.underlying3 g0
      obtain ⟨a1, e1, _, _⟩ := DataW.trod_int Tryd.underlying3 g1
      obtain ⟨a2, e2, _, _⟩ := DataW.trod_int Tryd.underlying3 g2
      obtain ⟨a3, e3, _, _⟩ := DataW.trod_int Tryd.underlying3 g3
      simp at e0 e1 e2 e3
      subst e0 e1 e2 e3
      rcases DataW.trod_slice Tryd.underlying66 g4 with ⟨hcs, _⟩ | ⟨a, len, cap, _, _, _, _, hcs, _⟩
      · simp at hcs
        subst hcs
        exact ⟨⟨a0, a1, a2, a3, none, 0, 0⟩, rfl⟩
      · simp at hcs
        subst hcs
        exact ⟨⟨a0, a1, a2, a3, some a, len, cap⟩, rfl⟩
/-- A slice of structs, opened: what each element gives. -/
theorem open_flat {α : Type} {f : α → List Value} {sz : Nat} (hsz : 0 < sz) (hf : ∀ a, (f a).length = sz) {W : World} {sp : Nat → Bool} {held : Bool} {fuel : Nat} {t e : TypeId} {v0 : Value} {y : DataW H × List MemPlace} (hu : Tryd.prog.underlying t = some (.slice e)) (hce : Tryd.prog.cellsOf e = sz)
    (ho : ∀ {n : Nat} {cs : List Value} {x : DataW H × List MemPlace}, DataW.trod enc Tryd.prog W 0 sp held n e cs = some x → ∃ a, cs = f a) (h : DataW.trod enc Tryd.prog W 0 sp held fuel t [v0] = some y) :
    ∃ (A : Option Addr) (c : Nat) (l : List α), v0 = .slice A l.length c ∧ Reads W W.heap.size sz A l.length (l.flatMap f) ∧ l.length ≤ c ∧ c ≤ maxLen := by
  have hln : ∀ l : List α, (l.flatMap f).length = l.length * sz := fun l => flat_length hf l
  rcases open_slice hu h with ⟨hcs, _⟩ | ⟨a, len, cap, m, n, D, Pl, hcs, _, hl, hm, hmm, hx, hi⟩
  · simp at hcs
    subst hcs
    exact ⟨none, 0, [], rfl, ⟨by simp, fun h => by simp at h⟩, Nat.le_refl _, by unfold maxLen; omega⟩
  · simp at hcs
    subst hcs
    have hml : len ≤ m := by rw [hmm]; split <;> omega
    have each : ∀ i : Fin len, ∃ b : α, ∀ j, j < sz → W.cell? (a.add (i * sz + j)) = (f b)[j]? := by
      intro i
      obtain ⟨cs', hc, ht'⟩ := hi i.1 (by have := i.2; omega)
      rw [hce] at hc
      obtain ⟨_, hcl, hat⟩ := World.cells?_some hc
      obtain ⟨b, hb⟩ := ho ht'
      refine ⟨b, fun j hj => ?_⟩
      have := hat j hj
      rw [Go.Deep.add_add] at this
      rw [this, hb]
    let q : Fin len → α := fun i => Classical.choose (each i)
    have hq := fun i => Classical.choose_spec (each i)
    refine ⟨some a, cap, List.ofFn q, by simp, reads_of hsz (hln _) ?_, by simpa using hl, hm⟩
    intro j u hu'
    have hj : j < len * sz := by
      have := (List.getElem?_eq_some_iff.1 hu').1
      rw [hln] at this
      simpa using this
    have hdiv : j / sz < len := Nat.div_lt_of_lt_mul (by rw [Nat.mul_comm]; exact hj)
    have ht : (List.ofFn q)[j / sz]? = some (q ⟨j / sz, hdiv⟩) := by rw [List.getElem?_ofFn, dif_pos hdiv]
    have h4 := Go.Proofs.YthakcefgbggkcaaDoor.flat_at hf (List.ofFn q) (j / sz) _ (j % sz) ht (Nat.mod_lt _ hsz)
    have e : j / sz * sz + j % sz = j := by rw [Nat.mul_comm]; exact Nat.div_add_mod j sz
    rw [e, hu'] at h4
    have h5 := (hq ⟨j / sz, hdiv⟩) (j % sz) (Nat.mod_lt _ hsz)
    simp only at h5
    rw [e] at h5
    rw [h5]
    exact h4.symm
theorem open_normal {W : World} {r : Reach} {b0 : Nat} {v : Value} {d : DataW H} {p : List MemPlace} (hv : Value.okWide Tryd.prog W r b0 24 v) (h : DataW.Trod enc Tryd.prog W 0 (fun _ => true) true 24 v d p) :
    ∃ (T N st : Int) (A : Option Addr) (c : Nat) (R : List Rl), v = .agg #[.int .i64 T, .int .i64 N, .int .i64 st, .slice A R.length c] ∧ Reads W W.heap.size 6 A R.length (rls R) := by
  obtain ⟨v0, v1, v2, v3, y0, y1, y2, y3, n, rfl, _, _, h0, h1, h2, h3⟩ := open_agg4 Tryd.underlying24 (by kernel_rfl) cells_nm hv h
  obtain ⟨a, e0, _, _⟩ := DataW.trod_int Tryd.underlying3 h0
  obtain ⟨b, e1, _, _⟩ := DataW.trod_int Tryd.underlying3 h1
  obtain ⟨c, e2, _, _⟩ := DataW.trod_int Tryd.underlying3 h2
  obtain ⟨A, k, R, e3, hr, _, _⟩ := open_flat (f := Rl.cells) (sz := 6) (by decide) (fun _ => rfl) Tryd.underlying22 cells_rl trod_rl h3
  simp at e0 e1 e2
  subst e0 e1 e2 e3
  exact ⟨a, b, c, A, k, R, rfl, hr⟩
theorem open_lattice {W : World} {r : Reach} {b0 : Nat} {v : Value} {d : DataW H} {p : List MemPlace} (hv : Value.okWide Tryd.prog W r b0 28 v) (h : DataW.Trod enc Tryd.prog W 0 (fun _ => true) true 28 v d p) :
    ∃ (S : Int) (A : Option Addr) (c : Nat) (L : List Ar) (FA : Option Addr) (nf fc : Nat) (fs : List Int), v = .agg #[.int .i64 S, .slice A L.length c, .slice FA nf fc] ∧ Reads W W.heap.size 5 A L.length (ars L) ∧ Reads W W.heap.size 1 FA nf (ints fs) ∧ nf ≤ maxLen := by
  obtain ⟨v0, v1, v2, y0, y1, y2, n, rfl, _, _, h0, h1, h2⟩ := open_agg3 Tryd.underlying28 (by kernel_rfl) cells_la hv h
  obtain ⟨a, e0, _, _⟩ := DataW.trod_int Tryd.underlying3 h0
  obtain ⟨A, k, L, e1, hr, _, _⟩ := open_flat (f := Ar.cells) (sz := 5) (by decide) (fun _ => rfl) Tryd.underlying25 cells_ar trod_ar h1
  obtain ⟨FA, nf, fc, fs, e2, hf, hl⟩ := open_ints_reads h2
  simp at e0
  subst e0 e1 e2
  exact ⟨a, A, k, L, FA, nf, fc, fs, rfl, hr, hf, hl⟩
end
end Go.Proofs.YthakcefgbggkcaaDoor
