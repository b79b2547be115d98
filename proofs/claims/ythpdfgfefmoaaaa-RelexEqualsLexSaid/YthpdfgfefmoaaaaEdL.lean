/- Lists of edits as data and in memory. -/
import Derived.Test.YthpdfgfefmoaaaaEdit
namespace Go.Proofs.Ythpdfgfefmoaaaa
open Go.RowKit

def Ed.cells (t : Ed) : List Value := [.int .i64 t.pos, .int .i64 t.del, .string t.ins]
def eds (l : List Ed) : List Value := l.flatMap Ed.cells
theorem eds_length (l : List Ed) : (eds l).length = l.length * 3 := by
  induction l with
  | nil => rfl
  | cons t l ih => simp only [eds, List.flatMap_cons, List.length_append] at *; rw [ih]; simp [Ed.cells]; omega
theorem eds_append (l m : List Ed) : eds (l ++ m) = eds l ++ eds m := by simp [eds]
theorem eds_at : ∀ (l : List Ed) (k : Nat) (t : Ed) (j : Nat), l[k]? = some t → j < 3 → (eds l)[k * 3 + j]? = t.cells[j]?
  | [], _, _, _, h, _ => by simp at h
  | x :: l, 0, t, j, h, hj => by
    simp at h
    subst h
    simp only [eds, List.flatMap_cons]
    rw [List.getElem?_append_left (by simp [Ed.cells]; omega)]
    simp
  | x :: l, k + 1, t, j, h, hj => by
    simp at h
    have := eds_at l k t j h hj
    simp only [eds, List.flatMap_cons] at *
    rw [List.getElem?_append_right (by simp [Ed.cells]; omega)]
    rw [← this]
    congr 1
    simp [Ed.cells]; omega
section
variable {w : World} {B n : Nat} {A : Option Addr} {l : List Ed}
theorem Reads.len_eds (h : Reads w B 3 A n (eds l)) : l.length = n := by have := h.1; rw [eds_length] at this; omega
theorem Reads.ed_at (h : Reads w B 3 A n (eds l)) {k : Nat} (hk : k < n) :
    ∃ b off t, A = some ⟨b, off, none⟩ ∧ b < B ∧ l[k]? = some t ∧ w.cell? ⟨b, off + k * 3, none⟩ = some (.int .i64 t.pos) ∧ w.cell? ⟨b, off + k * 3 + 1, none⟩ = some (.int .i64 t.del) ∧
      w.cell? ⟨b, off + k * 3 + 2, none⟩ = some (.string t.ins) := by
  obtain ⟨b, off, e, hb, hc⟩ := h.2 (by omega)
  have hl : k < l.length := by rw [h.len_eds]; exact hk
  have ht := List.getElem?_eq_getElem hl
  refine ⟨b, off, l[k], e, hb, ht, ?_, ?_, ?_⟩
  · have := hc (k * 3 + 0) (.int .i64 l[k].pos) (by rw [eds_at l k _ 0 ht (by omega)]; rfl)
    simpa using this
  · have := hc (k * 3 + 1) (.int .i64 l[k].del) (by rw [eds_at l k _ 1 ht (by omega)]; rfl)
    simpa [Nat.add_assoc] using this
  · have := hc (k * 3 + 2) (.string l[k].ins) (by rw [eds_at l k _ 2 ht (by omega)]; rfl)
    simpa [Nat.add_assoc] using this
end

end Go.Proofs.Ythpdfgfefmoaaaa
