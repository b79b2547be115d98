/- Two bytes among the arguments, opened. -/
import Derived.Test.YthakcefgbggkcaaDoorCMa
import Derived.OpenShut
namespace Go.Proofs.YthakcefgbggkcaaDoor
open Go.RowKit Go.ChangeShapes Go.WideShapes Go.ChangeAt Go.Joins Go.Deep
set_option maxRecDepth 100000

theorem cells_two : Tryd.prog.cellsOf 56 = 2 := by kernel_rfl
theorem cells_u8 : Tryd.prog.cellsOf 5 = 1 := by kernel_rfl
section
variable {H : Type} {enc : TypeId × Value → H}
theorem open_two {W : World} {r : Reach} {b0 : Nat} {v : Value} {d : DataW H} {p : List MemPlace} (hv : Value.okWide Tryd.prog W r b0 56 v) (h : DataW.Trod enc Tryd.prog W 0 (fun _ => true) true 56 v d p) :
    ∃ x y : Nat, x < 256 ∧ y < 256 ∧ v = .agg #[.int .u8 (x : Nat), .int .u8 (y : Nat)] := by
  obtain ⟨xs, rfl, hs⟩ : ∃ xs : Array Value, v = .agg xs ∧ xs.size = 2 := by
    simp only [Value.okWide, Tryd.underlying56] at hv
    obtain ⟨cs, h1, h2, _⟩ := hv
    exact ⟨cs, h1, by rw [h2, cells_two]⟩
  obtain ⟨c0, c1, rfl⟩ : ∃ c0 c1, xs = #[c0, c1] := by
    obtain ⟨l⟩ := xs
    match l, hs with
    | [a, b], _ => exact ⟨a, b, rfl⟩
  obtain ⟨fuel, hf⟩ := h
  obtain ⟨ys, m, _, _, _, hyl, hel⟩ := DataW.trod_array Tryd.underlying56 hf
  have g0 := hel 0 (by decide)
  have g1 := hel 1 (by decide)
  match ys, hyl with
  | [y0, y1], _ =>
    simp [cells_u8, Value.cells] at g0 g1
    obtain ⟨a0, e0, _, wa⟩ := DataW.trod_int Tryd.underlying5 g0
    obtain ⟨a1, e1, _, wb⟩ := DataW.trod_int Tryd.underlying5 g1
    simp at e0 e1
    subst e0 e1
    have ha := bounds_u8 wa
    have hb := bounds_u8 wb
    obtain ⟨x, rfl⟩ := Int.eq_ofNat_of_zero_le ha.1
    obtain ⟨y, rfl⟩ := Int.eq_ofNat_of_zero_le hb.1
    exact ⟨x, y, by omega, by omega, rfl⟩
end
end Go.Proofs.YthakcefgbggkcaaDoor
