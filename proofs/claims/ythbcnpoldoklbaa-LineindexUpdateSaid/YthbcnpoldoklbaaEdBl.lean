/- Texts as lists of bytes; the edited text. -/
import Derived.Test.YthbcnpoldoklbaaEdit
namespace Go.Proofs.Ythbcnpoldoklbaa
open Go.RowKit

def bl (s : ByteArray) : List UInt8 := s.data.toList
theorem bl_inj {s t : ByteArray} (h : bl s = bl t) : s = t := ByteArray.ext (Array.toList_inj.1 h)
theorem bl_append (s t : ByteArray) : bl (s ++ t) = bl s ++ bl t := by simp [bl]
theorem bl_extract (s : ByteArray) (i j : Nat) : bl (s.extract i j) = ((bl s).take j).drop i := by
  have h : (s.extract i j).data = s.data.extract i j := by simp
  unfold bl
  rw [h, Array.toList_extract, List.extract_eq_take_drop, List.drop_take]
theorem bl_length (s : ByteArray) : (bl s).length = s.size := by show s.data.toList.length = s.data.size; simp
theorem bl_empty : bl ⟨#[]⟩ = [] := rfl

/-- The edited text as a list. -/
theorem bl_apT {s : ByteArray} {e : Ed} (h : e.ok s.size = true) : bl (apT s e) = (bl s).take e.pos.toNat ++ bl e.ins ++ (bl s).drop (e.pos.toNat + e.del.toNat) := by
  simp only [apT, h, if_true, bl_append, bl_extract]
  rw [List.drop_zero, List.take_of_length_le (Nat.le_of_eq (bl_length s))]
theorem apT_size_ok {s : ByteArray} {e : Ed} (h : e.ok s.size = true) : ((apT s e).size : Int) = s.size + e.ins.size - e.del := by
  have h2 := congrArg List.length (bl_apT h)
  obtain ⟨h1, h3, h4, h5⟩ := Ed.ok_iff.1 h
  simp only [bl_length, List.length_append, List.length_take, List.length_drop] at h2
  omega

end Go.Proofs.Ythbcnpoldoklbaa
