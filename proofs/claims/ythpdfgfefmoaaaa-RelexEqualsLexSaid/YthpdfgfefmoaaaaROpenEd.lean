/- An edit's cells among the arguments. -/
import Derived.Test.YthpdfgfefmoaaaaOpen
import Derived.Test.YthpdfgfefmoaaaaEdit
namespace Go.Proofs.Ythpdfgfefmoaaaa
open Go.RowKit Go.ChangeShapes Go.WideShapes Go.ChangeAt Go.Joins Go.Deep


theorem cells_ed : Try.prog.cellsOf 27 = 3 := by kernel_rfl
theorem cells_str : Try.prog.cellsOf 9 = 1 := by kernel_rfl
section
variable {H : Type} {enc : TypeId × Value → H}
/-- An edit's three cells. -/
theorem trod_ed {w : World} {base : Nat} {spare : Nat → Bool} {held : Bool} {fuel : Nat} {c0 c1 c2 : Value} {x : DataW H × List MemPlace} (h : DataW.trod enc Try.prog w base spare held fuel 27 [c0, c1, c2] = some x) :
    ∃ (a b : Int) (t : ByteArray), c0 = .int .i64 a ∧ c1 = .int .i64 b ∧ c2 = .string t ∧ ((∀ n ∈ x.1.weights Try.prog 27, n ≤ reachBytes) → t.size ≤ reachBytes) := by
  obtain ⟨ys, n, _, rfl, _, hyl, hf⟩ := DataW.trod_struct Try.underlying27 h
  have g0 : DataW.trod enc Try.prog w base spare held n 3 (List.take (Try.prog.cellsOf 3) [c0, c1, c2]) = ys[0]? := hf 0 _ rfl
  have g1 : DataW.trod enc Try.prog w base spare held n 3 (List.take (Try.prog.cellsOf 3) [c1, c2]) = ys[1]? := hf 1 _ rfl
  have g2 : DataW.trod enc Try.prog w base spare held n 9 (List.take (Try.prog.cellsOf 9) [c2]) = ys[2]? := hf 2 _ rfl
  have s0 := List.getElem?_eq_getElem (l := ys) (i := 0) (by rw [hyl]; decide)
  have s1 := List.getElem?_eq_getElem (l := ys) (i := 1) (by rw [hyl]; decide)
  have s2 := List.getElem?_eq_getElem (l := ys) (i := 2) (by rw [hyl]; decide)
  rw [s0] at g0
  rw [s1] at g1
  rw [s2] at g2
  simp only [cells_int, cells_str, List.take_succ_cons, List.take_zero] at g0 g1 g2
  obtain ⟨a, e0, _, _⟩ := DataW.trod_int Try.underlying3 g0
  obtain ⟨b, e1, _, _⟩ := DataW.trod_int Try.underlying3 g1
  obtain ⟨t, e2, hy2, _⟩ := DataW.trod_string Try.underlying9 g2
  simp at e0 e1 e2
  refine ⟨a, b, t, e0, e1, e2, fun hw => ?_⟩
  have hp : (ys.map (·.1))[2]? = some (.lit (.string t.data.toList)) := by rw [List.getElem?_map, s2, hy2]; rfl
  have := hw t.data.toList.length (by
    simp only [DataW.weights, Try.underlying27]
    exact DataW.weights_mem_each (j := 2) (t := 9) rfl hp _ (by simp [DataW.weights]))
  rw [Array.length_toList] at this
  exact this
theorem open_ed {W : World} {v : Value} {d : DataW H} {p : List MemPlace} {r : Reach} {b0 : Nat} (hv : Value.okWide Try.prog W r b0 27 v) (h : DataW.Trod enc Try.prog W 0 (fun _ => true) true 27 v d p)
    (hw : ∀ n ∈ d.weights Try.prog 27, n ≤ reachBytes) : ∃ (a b : Int) (t : ByteArray), v = .agg #[.int .i64 a, .int .i64 b, .string t] ∧ t.size ≤ reachBytes := by
  obtain ⟨v0, v1, v2, y0, y1, y2, n, rfl, rfl, _, h0, h1, h2⟩ := open_agg3 Try.underlying27 (by kernel_rfl) cells_ed hv h
  obtain ⟨a, e0, _, _⟩ := DataW.trod_int Try.underlying3 h0
  obtain ⟨b, e1, _, _⟩ := DataW.trod_int Try.underlying3 h1
  obtain ⟨t, e2, hy2, _⟩ := DataW.trod_string Try.underlying9 h2
  simp at e0 e1 e2
  subst e0; subst e1; subst e2
  refine ⟨a, b, t, rfl, ?_⟩
  have := hw t.data.toList.length (by
    simp only [DataW.weights, Try.underlying27]
    refine DataW.weights_mem_each (j := 2) (t := 9) (d := .lit (.string t.data.toList)) rfl (by rw [hy2]; rfl) _ (by simp [DataW.weights]))
  rw [Array.length_toList] at this
  exact this
theorem open_strb {W : World} {v : Value} {d : DataW H} {p : List MemPlace} {r : Reach} {b0 : Nat} (hv : Value.okWide Try.prog W r b0 9 v) (h : DataW.Trod enc Try.prog W 0 (fun _ => true) true 9 v d p)
    (hw : ∀ n ∈ d.weights Try.prog 9, n ≤ reachBytes) : ∃ t : ByteArray, v = .string t ∧ t.size ≤ reachBytes := by
  obtain ⟨s, rfl, rfl, _, hs⟩ := ChangeMaps.open_string Try.underlying9 hv h
  refine ⟨s, rfl, ?_⟩
  have := hw s.data.toList.length (by simp [DataW.weights])
  rw [Array.length_toList] at this
  exact this
end
end Go.Proofs.Ythpdfgfefmoaaaa
