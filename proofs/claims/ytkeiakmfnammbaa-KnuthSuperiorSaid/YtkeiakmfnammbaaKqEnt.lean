/- The queue's entries as data and in memory; their order. -/
import Derived.Test.YtkeiakmfnammbaaPqPlain
namespace Go.Proofs.Ytkeiakmfnammbaa
open Go.RowKit

structure Ent where
  node : Int
  cost : Int
  size : Int
  h : Nat
  t : Nat
def Ent.cells (e : Ent) : List Value := [.int .i64 e.node, .int .i64 e.cost, .int .i64 e.size, .int .i64 (e.h : Nat), .int .i64 (e.t : Nat)]
def ents (l : List Ent) : List Value := l.flatMap Ent.cells
theorem ents_length (l : List Ent) : (ents l).length = l.length * 5 := by
  induction l with
  | nil => rfl
  | cons t l ih => simp only [ents, List.flatMap_cons, List.length_append] at *; rw [ih]; simp [Ent.cells]; omega
theorem ents_append (l m : List Ent) : ents (l ++ m) = ents l ++ ents m := by simp [ents]
theorem ents_at : ∀ (l : List Ent) (k : Nat) (t : Ent) (j : Nat), l[k]? = some t → j < 5 → (ents l)[k * 5 + j]? = t.cells[j]?
  | [], _, _, _, h, _ => by simp at h
  | x :: l, 0, t, j, h, hj => by
    simp at h
    subst h
    simp only [ents, List.flatMap_cons]
    rw [List.getElem?_append_left (by simp [Ent.cells]; omega)]
    simp
  | x :: l, k + 1, t, j, h, hj => by
    simp at h
    have := ents_at l k t j h hj
    simp only [ents, List.flatMap_cons] at *
    rw [List.getElem?_append_right (by simp [Ent.cells]; omega)]
    rw [← this]
    congr 1
    simp [Ent.cells]; omega
theorem ents_one {l : List Ent} {u : Value} (h : u ∈ ents l) : u.oneCell' = true := by
  simp only [ents, List.mem_flatMap] at h
  obtain ⟨t, _, h⟩ := h
  simp [Ent.cells] at h
  rcases h with rfl | rfl | rfl | rfl | rfl <;> rfl
theorem ents_set : ∀ (l : List Ent) (i : Nat) (t : Ent), i < l.length → ents (l.set i t) = (ents l).take (i * 5) ++ t.cells ++ (ents l).drop (i * 5 + 5)
  | [], _, _, h => absurd h (Nat.not_lt_zero _)
  | x :: l, 0, t, _ => by simp [ents, Ent.cells]
  | x :: l, i + 1, t, h => by
    have ih := ents_set l i t (by simpa using h)
    have e1 : ents (x :: l) = x.cells ++ ents l := by simp [ents]
    have e2 : ents ((x :: l).set (i + 1) t) = x.cells ++ ents (l.set i t) := by simp [ents]
    have hx : x.cells.length = 5 := rfl
    rw [e1, e2, ih]
    rw [show (i + 1) * 5 = x.cells.length + i * 5 by rw [hx]; omega, List.take_length_add_append]
    rw [show x.cells.length + i * 5 + 5 = x.cells.length + (i * 5 + 5) by omega, List.drop_length_add_append]
    simp
section
variable {w : World} {B n : Nat} {A : Option Addr} {l : List Ent}
theorem Reads.len_ents (h : Reads w B 5 A n (ents l)) : l.length = n := by have := h.1; rw [ents_length] at this; omega
theorem Reads.ent_at (h : Reads w B 5 A n (ents l)) {k : Nat} (hk : k < n) :
    ∃ b off t, A = some ⟨b, off, none⟩ ∧ b < B ∧ l[k]? = some t ∧ w.cell? ⟨b, off + k * 5, none⟩ = some (.int .i64 t.node) ∧ w.cell? ⟨b, off + k * 5 + 1, none⟩ = some (.int .i64 t.cost) ∧ w.cell? ⟨b, off + k * 5 + 2, none⟩ = some (.int .i64 t.size) ∧ w.cell? ⟨b, off + k * 5 + 3, none⟩ = some (.int .i64 (t.h : Nat)) ∧ w.cell? ⟨b, off + k * 5 + 4, none⟩ = some (.int .i64 (t.t : Nat)) := by
  obtain ⟨b, off, e, hb, hc⟩ := h.2 (by omega)
  have hl : k < l.length := by rw [h.len_ents]; exact hk
  have ht := List.getElem?_eq_getElem hl
  refine ⟨b, off, l[k], e, hb, ht, ?_, ?_, ?_, ?_, ?_⟩
  · have := hc (k * 5 + 0) (.int .i64 l[k].node) (by rw [ents_at l k _ 0 ht (by omega)]; rfl)
    simpa using this
  · have := hc (k * 5 + 1) (.int .i64 l[k].cost) (by rw [ents_at l k _ 1 ht (by omega)]; rfl)
    simpa [Nat.add_assoc] using this
  · have := hc (k * 5 + 2) (.int .i64 l[k].size) (by rw [ents_at l k _ 2 ht (by omega)]; rfl)
    simpa [Nat.add_assoc] using this
  · have := hc (k * 5 + 3) (.int .i64 (l[k].h : Nat)) (by rw [ents_at l k _ 3 ht (by omega)]; rfl)
    simpa [Nat.add_assoc] using this
  · have := hc (k * 5 + 4) (.int .i64 (l[k].t : Nat)) (by rw [ents_at l k _ 4 ht (by omega)]; rfl)
    simpa [Nat.add_assoc] using this
end

/-- Which of two comes first: by the order, then by time. -/
def lt (a b : Ent) : Bool := (decide (a.cost < b.cost) || (a.cost == b.cost && decide (a.size < b.size)))
def bf (a b : Ent) : Bool := lt a b || (!lt b a && decide (a.t < b.t))
theorem bf_iff {a b : Ent} : bf a b = true ↔ a.cost < b.cost ∨ (a.cost = b.cost ∧ (a.size < b.size ∨ (a.size = b.size ∧ a.t < b.t))) := by
  simp only [bf, lt]
  by_cases h1 : a.cost < b.cost <;> by_cases h2 : b.cost < a.cost <;> by_cases h3 : a.size < b.size <;> by_cases h4 : b.size < a.size <;> by_cases h5 : a.t < b.t <;> simp [h1, h2, h3, h4, h5] <;> omega
theorem bf_no {a b : Ent} : bf a b = false ↔ ¬ (a.cost < b.cost ∨ (a.cost = b.cost ∧ (a.size < b.size ∨ (a.size = b.size ∧ a.t < b.t)))) := by
  rw [← bf_iff]
  simp
theorem bf_ord : Ord bf := ⟨fun h1 h2 => by rw [bf_no] at *; omega, fun h => by rw [bf_no]; rw [bf_iff] at h; omega⟩
theorem bf_total {a b : Ent} (ht : a.t ≠ b.t) (h : bf a b = false) : bf b a = true := by rw [bf_no] at h; rw [bf_iff]; omega
end Go.Proofs.Ytkeiakmfnammbaa
