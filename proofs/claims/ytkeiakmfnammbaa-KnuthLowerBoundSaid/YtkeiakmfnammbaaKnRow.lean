/- Values in memory. -/
import Derived.Test.YtkeiakmfnammbaaKnPlain
import Derived.Test.YtkeiakmfnammbaaKqPop
import Derived.Test.YtkeiakmfnammbaaKqPush
import Derived.Lib.MinMax
namespace Go.Proofs.Ytkeiakmfnammbaa
open Go.RowKit

def Vl.cells (v : Vl) : List Value := [.int .i64 v.c, .int .i64 v.s]
def vls (l : List Vl) : List Value := l.flatMap Vl.cells
theorem vls_length (l : List Vl) : (vls l).length = l.length * 2 := by
  induction l with
  | nil => rfl
  | cons t l ih => simp only [vls, List.flatMap_cons, List.length_append] at *; rw [ih]; simp [Vl.cells]; omega
theorem vls_append (l m : List Vl) : vls (l ++ m) = vls l ++ vls m := by simp [vls]
theorem vls_at : ∀ (l : List Vl) (k : Nat) (t : Vl) (j : Nat), l[k]? = some t → j < 2 → (vls l)[k * 2 + j]? = t.cells[j]?
  | [], _, _, _, h, _ => by simp at h
  | x :: l, 0, t, j, h, hj => by
    simp at h
    subst h
    simp only [vls, List.flatMap_cons]
    rw [List.getElem?_append_left (by simp [Vl.cells]; omega)]
    simp
  | x :: l, k + 1, t, j, h, hj => by
    simp at h
    have := vls_at l k t j h hj
    simp only [vls, List.flatMap_cons] at *
    rw [List.getElem?_append_right (by simp [Vl.cells]; omega)]
    rw [← this]
    congr 1
    simp [Vl.cells]; omega
theorem vls_one {l : List Vl} {u : Value} (h : u ∈ vls l) : u.oneCell' = true := by
  simp only [vls, List.mem_flatMap] at h
  obtain ⟨t, _, h⟩ := h
  simp [Vl.cells] at h
  rcases h with rfl | rfl <;> rfl
theorem vls_set : ∀ (l : List Vl) (i : Nat) (t : Vl), i < l.length → vls (l.set i t) = ((vls l).set (i * 2) (.int .i64 t.c)).set (i * 2 + 1) (.int .i64 t.s)
  | [], _, _, h => absurd h (Nat.not_lt_zero _)
  | x :: l, 0, t, _ => by simp [vls, Vl.cells]
  | x :: l, i + 1, t, h => by
    have ih := vls_set l i t (by simpa using h)
    have e1 : vls (x :: l) = x.cells ++ vls l := by simp [vls]
    have e2 : vls ((x :: l).set (i + 1) t) = x.cells ++ vls (l.set i t) := by simp [vls]
    rw [e1, e2, ih]
    have hx : x.cells.length = 2 := rfl
    rw [show (i + 1) * 2 = x.cells.length + i * 2 by rw [hx]; omega, show x.cells.length + i * 2 + 1 = x.cells.length + (i * 2 + 1) by omega]
    rw [List.set_append_right _ _ (by omega), List.set_append_right _ _ (by omega)]
    simp
theorem Blk.vl_at {w : World} {g : Nat} {t : TypeId} {l : List Vl} (h : Blk w g t (vls l).toArray) {k : Nat} {v : Vl} (hk : l[k]? = some v) : w.cell? ⟨g, k * 2, none⟩ = some (.int .i64 v.c) ∧ w.cell? ⟨g, k * 2 + 1, none⟩ = some (.int .i64 v.s) := by
  refine ⟨?_, ?_⟩
  · rw [h.cell]
    have := vls_at l k v 0 hk (by omega)
    simpa [Vl.cells] using this
  · rw [h.cell]
    have := vls_at l k v 1 hk (by omega)
    simpa [Vl.cells] using this
theorem Blk.vl_put {w : World} {g : Nat} {t : TypeId} {l : List Vl} (h : Blk w g t (vls l).toArray) {k : Nat} (hk : k < l.length) (v : Vl) : Blk ((w.setCell ⟨g, k * 2, none⟩ (.int .i64 v.c)).setCell ⟨g, k * 2 + 1, none⟩ (.int .i64 v.s)) g t (vls (l.set k v)).toArray := by
  have := (h.set_ (k * 2) (.int .i64 v.c)).set_ (k * 2 + 1) (.int .i64 v.s)
  rw [vls_set l k v hk]
  simpa using this
section
variable {w : World} {B n : Nat} {A : Option Addr} {l : List Vl}
theorem Reads.len_vls (h : Reads w B 2 A n (vls l)) : l.length = n := by have := h.1; rw [vls_length] at this; omega
theorem Reads.vl_at (h : Reads w B 2 A n (vls l)) {k : Nat} (hk : k < n) :
    ∃ b off v, A = some ⟨b, off, none⟩ ∧ b < B ∧ l[k]? = some v ∧ w.cell? ⟨b, off + k * 2, none⟩ = some (.int .i64 v.c) ∧ w.cell? ⟨b, off + k * 2 + 1, none⟩ = some (.int .i64 v.s) := by
  obtain ⟨b, off, e, hb, hc⟩ := h.2 (by omega)
  have hl : k < l.length := by rw [h.len_vls]; exact hk
  have ht := List.getElem?_eq_getElem hl
  refine ⟨b, off, l[k], e, hb, ht, ?_, ?_⟩
  · have := hc (k * 2 + 0) (.int .i64 l[k].c) (by rw [vls_at l k _ 0 ht (by omega)]; rfl)
    simpa using this
  · have := hc (k * 2 + 1) (.int .i64 l[k].s) (by rw [vls_at l k _ 1 ht (by omega)]; rfl)
    simpa [Nat.add_assoc] using this
end
end Go.Proofs.Ytkeiakmfnammbaa
