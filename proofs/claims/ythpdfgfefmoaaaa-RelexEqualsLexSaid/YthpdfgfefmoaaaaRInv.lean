/- Texts as lists of bytes; the edited text; an edit followed by its inverse. -/
import Derived.Test.YthpdfgfefmoaaaaEdit
namespace Go.Proofs.Ythpdfgfefmoaaaa
open Go.RowKit


def bl (s : ByteArray) : List UInt8 := s.data.toList
theorem bl_inj {s t : ByteArray} (h : bl s = bl t) : s = t := ByteArray.ext (Array.toList_inj.1 h)
theorem bl_append (s t : ByteArray) : bl (s ++ t) = bl s ++ bl t := by simp [bl]
theorem bl_extract (s : ByteArray) (i j : Nat) : bl (s.extract i j) = ((bl s).take j).drop i := by
  have h : (s.extract i j).data = s.data.extract i j := by simp
  unfold bl
  rw [h, Array.toList_extract, List.extract_eq_take_drop, List.drop_take]
theorem bl_length (s : ByteArray) : (bl s).length = s.size := by show s.data.toList.length = s.data.size; simp
theorem bl_empty : bl ⟨#[]⟩ = [] := rfl

/-- The edited text as a list. -/
theorem bl_apT {s : ByteArray} {e : Ed} (h : e.ok s.size = true) : bl (apT s e) = (bl s).take e.pos.toNat ++ bl e.ins ++ (bl s).drop (e.pos.toNat + e.del.toNat) := by
  simp only [apT, h, if_true, bl_append, bl_extract]
  rw [List.drop_zero, List.take_of_length_le (Nat.le_of_eq (bl_length s))]
theorem apT_size_ok {s : ByteArray} {e : Ed} (h : e.ok s.size = true) : ((apT s e).size : Int) = s.size + e.ins.size - e.del := by
  have h2 := congrArg List.length (bl_apT h)
  obtain ⟨h1, h3, h4, h5⟩ := Ed.ok_iff.1 h
  simp only [bl_length, List.length_append, List.length_take, List.length_drop] at h2
  omega

/-- An edit followed by its inverse. -/
theorem inv_pos {s : ByteArray} {e : Ed} (h : e.ok s.size = true) : inv s e = ⟨e.pos, e.ins.size, s.extract e.pos.toNat (e.pos.toNat + e.del.toNat)⟩ := by simp [inv, h]
theorem inv_ok {s : ByteArray} {e : Ed} (h : e.ok s.size = true) : (inv s e).ok (apT s e).size = true := by
  have h2 := apT_size_ok h
  obtain ⟨h1, h3, h4, h5⟩ := Ed.ok_iff.1 h
  rw [inv_pos h]
  exact Ed.ok_iff.2 ⟨h1, by simp, by simp only; omega, by simp only; omega⟩
theorem inv_apT {s : ByteArray} {e : Ed} (h : e.ok s.size = true) : apT (apT s e) (inv s e) = s := by
  have hi := inv_ok h
  obtain ⟨h1, h3, h4, h5⟩ := Ed.ok_iff.1 h
  apply bl_inj
  rw [bl_apT hi, bl_apT h, inv_pos h]
  simp only [Int.toNat_natCast, bl_extract]
  have hp : e.pos.toNat ≤ (bl s).length := by rw [bl_length]; omega
  have hl : ((bl s).take e.pos.toNat).length = e.pos.toNat := by rw [List.length_take]; omega
  have e1 : ((bl s).take e.pos.toNat ++ bl e.ins ++ (bl s).drop (e.pos.toNat + e.del.toNat)).take e.pos.toNat = (bl s).take e.pos.toNat := by rw [List.append_assoc, List.take_left' hl]
  have e2 : ((bl s).take e.pos.toNat ++ bl e.ins ++ (bl s).drop (e.pos.toNat + e.del.toNat)).drop (e.pos.toNat + e.ins.size) = (bl s).drop (e.pos.toNat + e.del.toNat) := List.drop_left' (by rw [List.length_append, hl, bl_length])
  rw [e1, e2, List.drop_take, show e.pos.toNat + e.del.toNat - e.pos.toNat = e.del.toNat by omega, ← List.take_add, List.take_append_drop]
end Go.Proofs.Ythpdfgfefmoaaaa
