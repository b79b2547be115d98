/- A slice of ints among the arguments, opened. -/
import Derived.Test.YtnechjedhpcffaaOpen
namespace Go.Proofs.Ytnechjedhpcffaa
open Go.RowKit Go.ChangeShapes Go.WideShapes Go.ChangeAt Go.Joins Go.Deep

theorem open_ints_arg {H : Type} {enc : TypeId × Value → H} {W : World} {r : Reach} {b0 : Nat} {v : Value} {d : DataW H} {p : List MemPlace} (hv : Value.okWide Try.prog W r b0 22 v) (h : DataW.Trod enc Try.prog W 0 (fun _ => true) true 22 v d p) :
    ∃ (A : Option Addr) (n c : Nat) (l : List Int), v = .slice A n c ∧ Reads W W.heap.size 1 A n (ints l) := by
  obtain ⟨a0, len0, cap0, rfl⟩ := okWide_slice Try.underlying22 hv
  obtain ⟨fuel, hf⟩ := h
  change DataW.trod enc Try.prog W 0 (fun _ => true) true fuel 22 [.slice a0 len0 cap0] = some (d, p) at hf
  obtain ⟨A, n, c, l, e, hr, _⟩ := open_ints_reads hf
  exact ⟨A, n, c, l, e, hr⟩
end Go.Proofs.Ytnechjedhpcffaa
