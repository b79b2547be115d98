/- An automaton among the arguments, opened. -/
import Derived.Test.YthpdfgfefmoaaaaOpen
import Derived.Test.YthpdfgfefmoaaaaRDfa
namespace Go.Proofs.Ythpdfgfefmoaaaa
open Go.RowKit Go.ChangeShapes Go.WideShapes Go.ChangeAt Go.Joins Go.Deep


theorem cells_dfa : Try.prog.cellsOf 25 = 3 := by kernel_rfl
theorem cells_row : Try.prog.cellsOf 22 = 1 := by kernel_rfl
section
variable {H : Type} {enc : TypeId × Value → H}
theorem open_rows_reads {W : World} {sp : Nat → Bool} {hd : Bool} {n : Nat} {v0 : Value} {y : DataW H × List MemPlace} (h : DataW.trod enc Try.prog W 0 sp hd n 23 [v0] = some y) :
    ∃ (A : Option Addr) (len cap : Nat) (rv : List Value) (L : List (List Int)), v0 = .slice A len cap ∧ Reads W W.heap.size 1 A len rv ∧ rv.length = L.length ∧
      (∀ (i : Nat) (r : List Int), L[i]? = some r → ∃ A n c, rv[i]? = some (.slice A n c) ∧ Reads W W.heap.size 1 A n (ints r) ∧ n ≤ maxLen) ∧ len ≤ maxLen := by
  rcases Go.Deep.open_slice Try.underlying23 h with ⟨hcs, _⟩ | ⟨a, len, cap, m, n', D, Pl, hcs, _, hl, hm, hmm, _, hi⟩
  · simp at hcs
    subst hcs
    exact ⟨none, 0, 0, [], [], rfl, Reads.nil_, rfl, by simp, by unfold maxLen; omega⟩
  · simp at hcs
    subst hcs
    have hlm : len ≤ m := by rw [hmm]; split <;> omega
    rw [cells_row] at hi
    have each : ∀ i, i < len → ∃ (A : Option Addr) (n c : Nat) (r : List Int), W.cell? (a.add (i * 1)) = some (.slice A n c) ∧ Reads W W.heap.size 1 A n (ints r) ∧ n ≤ maxLen := by
      intro i hil
      obtain ⟨cs', hc, ht⟩ := hi i (by omega)
      obtain ⟨_, hcl, hat⟩ := World.cells?_some hc
      match cs', hcl with
      | [u], _ =>
        obtain ⟨A, n, c, r, rfl, hr, hn⟩ := open_ints_reads ht
        refine ⟨A, n, c, r, ?_, hr, hn⟩
        have := hat 0 (by omega)
        simpa [Addr.add] using this
    have each' : ∀ i : Fin len, ∃ q : Value × List Int, W.cell? (a.add (i * 1)) = some q.1 ∧ ∃ A n c, q.1 = .slice A n c ∧ Reads W W.heap.size 1 A n (ints q.2) ∧ n ≤ maxLen := by
      intro i
      obtain ⟨A, n, c, r, h1, h2, h3⟩ := each i.1 i.2
      exact ⟨(_, r), h1, A, n, c, rfl, h2, h3⟩
    let q : Fin len → Value × List Int := fun i => Classical.choose (each' i)
    have hq : ∀ i, W.cell? (a.add (i.1 * 1)) = some (q i).1 ∧ ∃ A n c, (q i).1 = .slice A n c ∧ Reads W W.heap.size 1 A n (ints (q i).2) ∧ n ≤ maxLen := fun i => Classical.choose_spec (each' i)
    refine ⟨some a, len, cap, List.ofFn fun i => (q i).1, List.ofFn fun i => (q i).2, rfl, reads_of (by omega) (by simp) ?_, by simp, ?_, by omega⟩
    · intro j u hu
      rw [List.getElem?_ofFn] at hu
      split at hu
      · rename_i hj
        injection hu with hu
        have := (hq ⟨j, hj⟩).1
        rw [← hu]
        simpa using this
      · cases hu
    · intro i r hr
      rw [List.getElem?_ofFn] at hr
      split at hr
      · rename_i hj
        injection hr with hr
        obtain ⟨A, n, c, e, h1, h2⟩ := (hq ⟨i, hj⟩).2
        refine ⟨A, n, c, ?_, by rw [← hr]; exact h1, h2⟩
        rw [List.getElem?_ofFn, dif_pos hj, e]
      · cases hr
theorem open_dfa {W : World} {r : Reach} {b0 : Nat} {v : Value} {d : DataW H} {p : List MemPlace} (hv : Value.okWide Try.prog W r b0 25 v) (h : DataW.Trod enc Try.prog W 0 (fun _ => true) true 25 v d p) :
    ∃ (V : DfaV) (D : Dfa), v = .agg #[.slice V.Ac V.nc V.cc, .slice V.An V.nn V.cn, .slice V.Aa V.na V.ca] ∧ DfaAt W W.heap.size V D := by
  obtain ⟨v0, v1, v2, y0, y1, y2, n, rfl, _, _, h0, h1, h2⟩ := open_agg3 Try.underlying25 (by kernel_rfl) cells_dfa hv h
  obtain ⟨Ac, nc, cc, lc, rfl, rc, hc⟩ := open_ints_reads h0
  obtain ⟨An, nn, cn, rv, L, rfl, rn, hL, hr, hn⟩ := open_rows_reads h1
  obtain ⟨Aa, na, ca, la, rfl, ra, ha⟩ := open_ints_reads h2
  exact ⟨⟨Ac, nc, cc, An, nn, cn, Aa, na, ca⟩, ⟨lc, L, la⟩, rfl, ⟨rc, ra, ⟨rv, rn, hL, hr⟩, hc, hn, ha⟩⟩
end
end Go.Proofs.Ythpdfgfefmoaaaa
