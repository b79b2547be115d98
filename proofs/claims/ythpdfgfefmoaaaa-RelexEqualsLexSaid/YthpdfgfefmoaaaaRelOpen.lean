/- An Ask among the arguments, opened. -/
import Derived.Test.YthpdfgfefmoaaaaROpenDfa
import Derived.Test.YthpdfgfefmoaaaaROpenEd
namespace Go.Proofs.Ythpdfgfefmoaaaa
open Go.RowKit Go.ChangeShapes Go.WideShapes Go.ChangeAt Go.Joins Go.Deep

theorem cells_ask : Try.prog.cellsOf 29 = 7 := by kernel_rfl
section
variable {H : Type} {enc : TypeId × Value → H}
theorem trod_dfa {W : World} {sp : Nat → Bool} {hd : Bool} {n : Nat} {c0 c1 c2 : Value} {y : DataW H × List MemPlace} (h : DataW.trod enc Try.prog W 0 sp hd n 25 [c0, c1, c2] = some y) :
    ∃ (V : DfaV) (D : Dfa), c0 = .slice V.Ac V.nc V.cc ∧ c1 = .slice V.An V.nn V.cn ∧ c2 = .slice V.Aa V.na V.ca ∧ DfaAt W W.heap.size V D := by
  obtain ⟨ys, m, _, rfl, _, hyl, hf⟩ := DataW.trod_struct Try.underlying25 h
  have g0 : DataW.trod enc Try.prog W 0 sp hd m 22 (List.take (Try.prog.cellsOf 22) [c0, c1, c2]) = ys[0]? := hf 0 _ rfl
  have g1 : DataW.trod enc Try.prog W 0 sp hd m 23 (List.take (Try.prog.cellsOf 23) [c1, c2]) = ys[1]? := hf 1 _ rfl
  have g2 : DataW.trod enc Try.prog W 0 sp hd m 22 (List.take (Try.prog.cellsOf 22) [c2]) = ys[2]? := hf 2 _ rfl
  have s0 := List.getElem?_eq_getElem (l := ys) (i := 0) (by rw [hyl]; decide)
  have s1 := List.getElem?_eq_getElem (l := ys) (i := 1) (by rw [hyl]; decide)
  have s2 := List.getElem?_eq_getElem (l := ys) (i := 2) (by rw [hyl]; decide)
  have cells_rows : Try.prog.cellsOf 23 = 1 := by kernel_rfl
  rw [s0] at g0
  rw [s1] at g1
  rw [s2] at g2
  simp only [cells_row, cells_rows, List.take_succ_cons, List.take_zero] at g0 g1 g2
  obtain ⟨Ac, nc, cc, lc, rfl, rc, hc⟩ := open_ints_reads g0
  obtain ⟨An, nn, cn, rv, L, rfl, rn, hL, hr, hn⟩ := open_rows_reads g1
  obtain ⟨Aa, na, ca, la, rfl, ra, ha⟩ := open_ints_reads g2
  exact ⟨⟨Ac, nc, cc, An, nn, cn, Aa, na, ca⟩, ⟨lc, L, la⟩, rfl, rfl, rfl, ⟨rc, ra, ⟨rv, rn, hL, hr⟩, hc, hn, ha⟩⟩
theorem open_ask {W : World} {v : Value} {d : DataW H} {p : List MemPlace} {r : Reach} {b0 : Nat} (hv : Value.okWide Try.prog W r b0 29 v) (h : DataW.Trod enc Try.prog W 0 (fun _ => true) true 29 v d p)
    (hw : ∀ n ∈ d.weights Try.prog 29, n ≤ reachBytes) :
    ∃ (V : DfaV) (D : Dfa) (s t : ByteArray) (i j : Int), v = .agg #[.slice V.Ac V.nc V.cc, .slice V.An V.nn V.cn, .slice V.Aa V.na V.ca, .string s, .int .i64 i, .int .i64 j, .string t] ∧ DfaAt W W.heap.size V D ∧ s.size ≤ maxLen ∧ t.size ≤ maxLen := by
  obtain ⟨cs, rfl, hsz⟩ := okWide_struct Try.underlying29 hv
  rw [cells_ask] at hsz
  obtain ⟨l⟩ := cs
  match l, hsz with
  | [c0, c1, c2, c3, c4, c5, c6], _ =>
  obtain ⟨fuel, hf⟩ := h
  change DataW.trod enc Try.prog W 0 (fun _ => true) true fuel 29 [c0, c1, c2, c3, c4, c5, c6] = some (d, p) at hf
  obtain ⟨ys, m, _, hx, _, hyl, hf⟩ := DataW.trod_struct Try.underlying29 hf
  have g0 : DataW.trod enc Try.prog W 0 (fun _ => true) true m 25 (List.take (Try.prog.cellsOf 25) [c0, c1, c2, c3, c4, c5, c6]) = ys[0]? := hf 0 _ rfl
  have g1 : DataW.trod enc Try.prog W 0 (fun _ => true) true m 9 (List.take (Try.prog.cellsOf 9) [c3, c4, c5, c6]) = ys[1]? := hf 1 _ rfl
  have g2 : DataW.trod enc Try.prog W 0 (fun _ => true) true m 27 (List.take (Try.prog.cellsOf 27) [c4, c5, c6]) = ys[2]? := hf 2 _ rfl
  have s0 := List.getElem?_eq_getElem (l := ys) (i := 0) (by rw [hyl]; decide)
  have s1 := List.getElem?_eq_getElem (l := ys) (i := 1) (by rw [hyl]; decide)
  have s2 := List.getElem?_eq_getElem (l := ys) (i := 2) (by rw [hyl]; decide)
  rw [s0] at g0
  rw [s1] at g1
  rw [s2] at g2
  simp only [cells_dfa, cells_str, cells_ed, List.take_succ_cons, List.take_zero] at g0 g1 g2
  obtain ⟨V, D, rfl, rfl, rfl, hD⟩ := trod_dfa g0
  obtain ⟨s, e1, hy1, _⟩ := DataW.trod_string Try.underlying9 g1
  obtain ⟨i, j, t, rfl, rfl, rfl, ht⟩ := trod_ed g2
  simp at e1
  subst e1
  simp only [Prod.mk.injEq] at hx
  have hmax : reachBytes ≤ maxLen := by decide
  refine ⟨V, D, s, t, i, j, rfl, hD, ?_, ?_⟩
  · have hp : (ys.map (·.1))[1]? = some (.lit (.string s.data.toList)) := by rw [List.getElem?_map, s1, hy1]; rfl
    have := hw s.data.toList.length (by
      rw [hx.1]
      simp only [DataW.weights, Try.underlying29]
      exact DataW.weights_mem_each (j := 1) (t := 9) rfl hp _ (by simp [DataW.weights]))
    rw [Array.length_toList] at this
    exact Nat.le_trans this hmax
  · refine Nat.le_trans (ht fun n hn => ?_) hmax
    have hp : (ys.map (·.1))[2]? = some (ys[2]'(by rw [hyl]; decide)).1 := by rw [List.getElem?_map, s2]; rfl
    refine hw n ?_
    rw [hx.1]
    simp only [DataW.weights, Try.underlying29]
    exact DataW.weights_mem_each (j := 2) (t := 27) rfl hp _ hn
end
end Go.Proofs.Ythpdfgfefmoaaaa
