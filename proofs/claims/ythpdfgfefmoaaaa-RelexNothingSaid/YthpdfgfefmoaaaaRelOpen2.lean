/- Two bytes among the arguments, opened. -/
import Derived.Test.YthpdfgfefmoaaaaRelOpen
import Derived.OpenShut
namespace Go.Proofs.Ythpdfgfefmoaaaa
open Go.RowKit Go.ChangeShapes Go.WideShapes Go.ChangeAt Go.Joins Go.Deep

theorem okWide_array {P : Program} {w : World} {r : Reach} {base : Nat} {t e : TypeId} {n : Nat} {v : Value} (ht : P.underlying t = some (.array n e)) (h : Value.okWide P w r base t v) : ∃ cs, v = .agg cs ∧ cs.size = P.cellsOf t := by
  unfold Value.okWide at h
  rw [ht] at h
  cases v <;> simp_all
theorem open_two {H : Type} {enc : TypeId × Value → H} {W : World} {r : Reach} {b0 : Nat} {v : Value} {d : DataW H} {p : List MemPlace} (hv : Value.okWide Try.prog W r b0 48 v) (h : DataW.Trod enc Try.prog W 0 (fun _ => true) true 48 v d p) :
    ∃ x y : Int, v = .agg #[.int .u8 x, .int .u8 y] ∧ (0 ≤ x ∧ x ≤ 255) ∧ (0 ≤ y ∧ y ≤ 255) := by
  obtain ⟨cs, rfl, hsz⟩ := okWide_array Try.underlying48 hv
  have c2 : Try.prog.cellsOf 48 = 2 := by kernel_rfl
  have c1 : Try.prog.cellsOf 5 = 1 := by kernel_rfl
  rw [c2] at hsz
  obtain ⟨l⟩ := cs
  match l, hsz with
  | [c0, c1'], _ =>
  obtain ⟨fuel, hf⟩ := h
  change DataW.trod enc Try.prog W 0 (fun _ => true) true fuel 48 [c0, c1'] = some (d, p) at hf
  obtain ⟨ys, m, _, hx, _, hyl, hf⟩ := DataW.trod_array Try.underlying48 hf
  have g0 := hf 0 (by decide)
  have g1 := hf 1 (by decide)
  rw [c1] at g0 g1
  rw [List.getElem?_eq_getElem (by rw [hyl]; decide)] at g0 g1
  simp only [List.drop_zero, List.take_succ_cons, List.take_zero, Nat.zero_mul, Nat.one_mul, List.drop_succ_cons] at g0 g1
  obtain ⟨x, e0, _, w0⟩ := DataW.trod_int Try.underlying5 g0
  obtain ⟨y, e1, _, w1⟩ := DataW.trod_int Try.underlying5 g1
  simp at e0 e1
  subst e0 e1
  exact ⟨x, y, rfl, bounds_u8 w0, bounds_u8 w1⟩
end Go.Proofs.Ythpdfgfefmoaaaa
