/- Lists of edits as data and in memory; an edit and its inverse; how edits are compared. -/
import Derived.Test.YtepohmklbfkdfaaEdit
import Derived.Test.YtepohmklbfkdfaaInvert
namespace Go.Proofs.Ytepohmklbfkdfaa
open Go.RowKit

def Ed.cells (t : Ed) : List Value := [.int .i64 t.pos, .int .i64 t.del, .string t.ins]
def eds (l : List Ed) : List Value := l.flatMap Ed.cells
theorem eds_length (l : List Ed) : (eds l).length = l.length * 3 := by
  induction l with
  | nil => rfl
  | cons t l ih => simp only [eds, List.flatMap_cons, List.length_append] at *; rw [ih]; simp [Ed.cells]; omega
theorem eds_append (l m : List Ed) : eds (l ++ m) = eds l ++ eds m := by simp [eds]
theorem eds_at : ∀ (l : List Ed) (k : Nat) (t : Ed) (j : Nat), l[k]? = some t → j < 3 → (eds l)[k * 3 + j]? = t.cells[j]?
  | [], _, _, _, h, _ => by simp at h
  | x :: l, 0, t, j, h, hj => by
    simp at h
    subst h
    simp only [eds, List.flatMap_cons]
    rw [List.getElem?_append_left (by simp [Ed.cells]; omega)]
    simp
  | x :: l, k + 1, t, j, h, hj => by
    simp at h
    have := eds_at l k t j h hj
    simp only [eds, List.flatMap_cons] at *
    rw [List.getElem?_append_right (by simp [Ed.cells]; omega)]
    rw [← this]
    congr 1
    simp [Ed.cells]; omega
section
variable {w : World} {B n : Nat} {A : Option Addr} {l : List Ed}
theorem Reads.len_eds (h : Reads w B 3 A n (eds l)) : l.length = n := by have := h.1; rw [eds_length] at this; omega
theorem Reads.ed_at (h : Reads w B 3 A n (eds l)) {k : Nat} (hk : k < n) :
    ∃ b off t, A = some ⟨b, off, none⟩ ∧ b < B ∧ l[k]? = some t ∧ w.cell? ⟨b, off + k * 3, none⟩ = some (.int .i64 t.pos) ∧ w.cell? ⟨b, off + k * 3 + 1, none⟩ = some (.int .i64 t.del) ∧
      w.cell? ⟨b, off + k * 3 + 2, none⟩ = some (.string t.ins) := by
  obtain ⟨b, off, e, hb, hc⟩ := h.2 (by omega)
  have hl : k < l.length := by rw [h.len_eds]; exact hk
  have ht := List.getElem?_eq_getElem hl
  refine ⟨b, off, l[k], e, hb, ht, ?_, ?_, ?_⟩
  · have := hc (k * 3 + 0) (.int .i64 l[k].pos) (by rw [eds_at l k _ 0 ht (by omega)]; rfl)
    simpa using this
  · have := hc (k * 3 + 1) (.int .i64 l[k].del) (by rw [eds_at l k _ 1 ht (by omega)]; rfl)
    simpa [Nat.add_assoc] using this
  · have := hc (k * 3 + 2) (.string l[k].ins) (by rw [eds_at l k _ 2 ht (by omega)]; rfl)
    simpa [Nat.add_assoc] using this
end

def sumIns (l : List Ed) : Nat := (l.map fun e => e.ins.size).sum
theorem apT_size (s : ByteArray) (e : Ed) : (apT s e).size ≤ s.size + e.ins.size := by
  unfold apT
  split
  · rename_i h
    obtain ⟨h1, h2, h3, h4⟩ := Ed.ok_iff.1 h
    simp only [ByteArray.size_append, ByteArray.size_extract]
    omega
  · exact Nat.zero_le _
def apAll : ByteArray → List Ed → ByteArray × Int
  | s, [] => (s, 0)
  | s, e :: l => if e.ok s.size then apAll (apT s e) l else (⟨#[]⟩, 2)
theorem drop_cons_ed {l : List Ed} {k : Nat} {t : Ed} (h : l[k]? = some t) : l.drop k = t :: l.drop (k + 1) := by
  obtain ⟨hk, e⟩ := List.getElem?_eq_some_iff.1 h
  rw [List.drop_eq_getElem_cons hk, e]
theorem apF_ok {s : ByteArray} {e : Ed} (h : e.ok s.size = true) : apF s e = 0 := by simp [apF, h]
theorem apF_no {s : ByteArray} {e : Ed} (h : e.ok s.size = false) : apF s e = 2 := by simp [apF, h]
theorem apAll_ok {s : ByteArray} {e : Ed} {l : List Ed} (h : e.ok s.size = true) : apAll s (e :: l) = apAll (apT s e) l := by simp [apAll, h]
theorem apAll_no {s : ByteArray} {e : Ed} {l : List Ed} (h : e.ok s.size = false) : apAll s (e :: l) = (⟨#[]⟩, 2) := by simp [apAll, h]

def bl (s : ByteArray) : List UInt8 := s.data.toList
theorem bl_inj {s t : ByteArray} (h : bl s = bl t) : s = t := ByteArray.ext (Array.toList_inj.1 h)
theorem bl_append (s t : ByteArray) : bl (s ++ t) = bl s ++ bl t := by simp [bl]
theorem bl_extract (s : ByteArray) (i j : Nat) : bl (s.extract i j) = ((bl s).take j).drop i := by
  have h : (s.extract i j).data = s.data.extract i j := by simp
  unfold bl
  rw [h, Array.toList_extract, List.extract_eq_take_drop, List.drop_take]
theorem bl_length (s : ByteArray) : (bl s).length = s.size := by show s.data.toList.length = s.data.size; simp
theorem bl_empty : bl ⟨#[]⟩ = [] := rfl

/-- The edited text as a list. -/
theorem bl_apT {s : ByteArray} {e : Ed} (h : e.ok s.size = true) : bl (apT s e) = (bl s).take e.pos.toNat ++ bl e.ins ++ (bl s).drop (e.pos.toNat + e.del.toNat) := by
  simp only [apT, h, if_true, bl_append, bl_extract]
  rw [List.drop_zero, List.take_of_length_le (Nat.le_of_eq (bl_length s))]
theorem apT_size_ok {s : ByteArray} {e : Ed} (h : e.ok s.size = true) : ((apT s e).size : Int) = s.size + e.ins.size - e.del := by
  have h2 := congrArg List.length (bl_apT h)
  obtain ⟨h1, h3, h4, h5⟩ := Ed.ok_iff.1 h
  simp only [bl_length, List.length_append, List.length_take, List.length_drop] at h2
  omega

/-- An edit followed by its inverse. -/
theorem inv_pos {s : ByteArray} {e : Ed} (h : e.ok s.size = true) : inv s e = ⟨e.pos, e.ins.size, s.extract e.pos.toNat (e.pos.toNat + e.del.toNat)⟩ := by simp [inv, h]
theorem inv_ok {s : ByteArray} {e : Ed} (h : e.ok s.size = true) : (inv s e).ok (apT s e).size = true := by
  have h2 := apT_size_ok h
  obtain ⟨h1, h3, h4, h5⟩ := Ed.ok_iff.1 h
  rw [inv_pos h]
  exact Ed.ok_iff.2 ⟨h1, by simp, by simp only; omega, by simp only; omega⟩
theorem inv_apT {s : ByteArray} {e : Ed} (h : e.ok s.size = true) : apT (apT s e) (inv s e) = s := by
  have hi := inv_ok h
  obtain ⟨h1, h3, h4, h5⟩ := Ed.ok_iff.1 h
  apply bl_inj
  rw [bl_apT hi, bl_apT h, inv_pos h]
  simp only [Int.toNat_natCast, bl_extract]
  have hp : e.pos.toNat ≤ (bl s).length := by rw [bl_length]; omega
  have hl : ((bl s).take e.pos.toNat).length = e.pos.toNat := by rw [List.length_take]; omega
  have e1 : ((bl s).take e.pos.toNat ++ bl e.ins ++ (bl s).drop (e.pos.toNat + e.del.toNat)).take e.pos.toNat = (bl s).take e.pos.toNat := by rw [List.append_assoc, List.take_left' hl]
  have e2 : ((bl s).take e.pos.toNat ++ bl e.ins ++ (bl s).drop (e.pos.toNat + e.del.toNat)).drop (e.pos.toNat + e.ins.size) = (bl s).drop (e.pos.toNat + e.del.toNat) := List.drop_left' (by rw [List.length_append, hl, bl_length])
  rw [e1, e2, List.drop_take, show e.pos.toNat + e.del.toNat - e.pos.toNat = e.del.toNat by omega, ← List.take_add, List.take_append_drop]
theorem inv_inv {s : ByteArray} {e : Ed} (h : e.ok s.size = true) : inv (apT s e) (inv s e) = e := by
  have hi := inv_ok h
  obtain ⟨h1, h3, h4, h5⟩ := Ed.ok_iff.1 h
  rw [inv_pos hi, inv_pos h]
  obtain ⟨p, d, t⟩ := e
  simp only at h1 h3 h4 h5 ⊢
  have hp : p.toNat ≤ (bl s).length := by rw [bl_length]; omega
  have hl : ((bl s).take p.toNat).length = p.toNat := by rw [List.length_take]; omega
  congr 1
  · rw [ByteArray.size_extract]; omega
  · apply bl_inj
    rw [bl_extract, bl_apT h]
    simp only [Int.toNat_natCast]
    rw [List.append_assoc, List.take_add, List.take_left' hl, List.drop_left' hl, List.drop_left' hl, List.take_left' (bl_length t)]

def ed0 : Ed := ⟨0, 0, ⟨#[]⟩⟩
def Ed.eqb (a b : Ed) : Bool := a.pos == b.pos && (a.del == b.del && a.ins.toList == b.ins.toList)
theorem Ed.eqb_iff {a b : Ed} : a.eqb b = true ↔ a = b := by
  obtain ⟨k, p, t⟩ := a
  obtain ⟨k', p', t'⟩ := b
  simp only [Ed.eqb, Bool.and_eq_true, beq_iff_eq, Ed.mk.injEq]
  have ht : t.toList = t'.toList ↔ t = t' := by
    constructor
    · intro h
      exact ByteArray.ext (by rw [ByteArray.toList_eq, ByteArray.toList_eq] at h; exact Array.toList_inj.1 h)
    · intro h; rw [h]
  rw [ht]
theorem Ed.underStruct : Try.prog.underlying 31 = some (.struct (Try.prog.fieldsOf 31)) := by kernel_rfl
theorem run_neq_ed (w : World) (a b c d : Int) (s t : ByteArray) :
    (binOp .neq 31 (.agg #[.int .i64 a, .int .i64 b, .string s]) (.agg #[.int .i64 c, .int .i64 d, .string t])).run Try.prog w = .ok (.bool (!Ed.eqb ⟨a, b, s⟩ ⟨c, d, t⟩)) w := by
  unfold Ed.eqb
  simp only [binOp]
  by_cases h1 : a = c
  · by_cases h2 : b = d
    · by_cases h3 : s.toList = t.toList <;> simp [go_sem, Op.equal, Op.maxDepth, h1, h2, h3]
    · simp [go_sem, Op.equal, Op.maxDepth, h1, h2]
  · simp [go_sem, Op.equal, Op.maxDepth, h1]
theorem run_eql_ed (w : World) (a b c d : Int) (s t : ByteArray) :
    (binOp .eql 31 (.agg #[.int .i64 a, .int .i64 b, .string s]) (.agg #[.int .i64 c, .int .i64 d, .string t])).run Try.prog w = .ok (.bool (Ed.eqb ⟨a, b, s⟩ ⟨c, d, t⟩)) w := by
  unfold Ed.eqb
  simp only [binOp]
  by_cases h1 : a = c
  · by_cases h2 : b = d
    · by_cases h3 : s.toList = t.toList <;> simp [go_sem, Op.equal, Op.maxDepth, h1, h2, h3]
    · simp [go_sem, Op.equal, Op.maxDepth, h1, h2]
  · simp [go_sem, Op.equal, Op.maxDepth, h1]

end Go.Proofs.Ytepohmklbfkdfaa
