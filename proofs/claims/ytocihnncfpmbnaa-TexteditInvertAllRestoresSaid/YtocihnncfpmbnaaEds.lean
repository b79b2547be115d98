/- Lists of edits as data and in memory; what applying them in sequence comes to. -/
import Derived.Test.YtocihnncfpmbnaaEdit
namespace Go.Proofs.Ytocihnncfpmbnaa
open Go.RowKit

def Ed.cells (t : Ed) : List Value := [.int .i64 t.pos, .int .i64 t.del, .string t.ins]
def eds (l : List Ed) : List Value := l.flatMap Ed.cells
theorem eds_length (l : List Ed) : (eds l).length = l.length * 3 := by
  induction l with
  | nil => rfl
  | cons t l ih => simp only [eds, List.flatMap_cons, List.length_append] at *; rw [ih]; simp [Ed.cells]; omega
theorem eds_append (l m : List Ed) : eds (l ++ m) = eds l ++ eds m := by simp [eds]
theorem eds_at : ∀ (l : List Ed) (k : Nat) (t : Ed) (j : Nat), l[k]? = some t → j < 3 → (eds l)[k * 3 + j]? = t.cells[j]?
  | [], _, _, _, h, _ => by simp at h
  | x :: l, 0, t, j, h, hj => by
    simp at h
    subst h
    simp only [eds, List.flatMap_cons]
    rw [List.getElem?_append_left (by simp [Ed.cells]; omega)]
    simp
  | x :: l, k + 1, t, j, h, hj => by
    simp at h
    have := eds_at l k t j h hj
    simp only [eds, List.flatMap_cons] at *
    rw [List.getElem?_append_right (by simp [Ed.cells]; omega)]
    rw [← this]
    congr 1
    simp [Ed.cells]; omega
section
variable {w : World} {B n : Nat} {A : Option Addr} {l : List Ed}
theorem Reads.len_eds (h : Reads w B 3 A n (eds l)) : l.length = n := by have := h.1; rw [eds_length] at this; omega
theorem Reads.ed_at (h : Reads w B 3 A n (eds l)) {k : Nat} (hk : k < n) :
    ∃ b off t, A = some ⟨b, off, none⟩ ∧ b < B ∧ l[k]? = some t ∧ w.cell? ⟨b, off + k * 3, none⟩ = some (.int .i64 t.pos) ∧ w.cell? ⟨b, off + k * 3 + 1, none⟩ = some (.int .i64 t.del) ∧
      w.cell? ⟨b, off + k * 3 + 2, none⟩ = some (.string t.ins) := by
  obtain ⟨b, off, e, hb, hc⟩ := h.2 (by omega)
  have hl : k < l.length := by rw [h.len_eds]; exact hk
  have ht := List.getElem?_eq_getElem hl
  refine ⟨b, off, l[k], e, hb, ht, ?_, ?_, ?_⟩
  · have := hc (k * 3 + 0) (.int .i64 l[k].pos) (by rw [eds_at l k _ 0 ht (by omega)]; rfl)
    simpa using this
  · have := hc (k * 3 + 1) (.int .i64 l[k].del) (by rw [eds_at l k _ 1 ht (by omega)]; rfl)
    simpa [Nat.add_assoc] using this
  · have := hc (k * 3 + 2) (.string l[k].ins) (by rw [eds_at l k _ 2 ht (by omega)]; rfl)
    simpa [Nat.add_assoc] using this
end

def sumIns (l : List Ed) : Nat := (l.map fun e => e.ins.size).sum
theorem apT_size (s : ByteArray) (e : Ed) : (apT s e).size ≤ s.size + e.ins.size := by
  unfold apT
  split
  · rename_i h
    obtain ⟨h1, h2, h3, h4⟩ := Ed.ok_iff.1 h
    simp only [ByteArray.size_append, ByteArray.size_extract]
    omega
  · exact Nat.zero_le _
def apAll : ByteArray → List Ed → ByteArray × Int
  | s, [] => (s, 0)
  | s, e :: l => if e.ok s.size then apAll (apT s e) l else (⟨#[]⟩, 2)
theorem drop_cons_ed {l : List Ed} {k : Nat} {t : Ed} (h : l[k]? = some t) : l.drop k = t :: l.drop (k + 1) := by
  obtain ⟨hk, e⟩ := List.getElem?_eq_some_iff.1 h
  rw [List.drop_eq_getElem_cons hk, e]
theorem apF_ok {s : ByteArray} {e : Ed} (h : e.ok s.size = true) : apF s e = 0 := by simp [apF, h]
theorem apF_no {s : ByteArray} {e : Ed} (h : e.ok s.size = false) : apF s e = 2 := by simp [apF, h]
theorem apAll_ok {s : ByteArray} {e : Ed} {l : List Ed} (h : e.ok s.size = true) : apAll s (e :: l) = apAll (apT s e) l := by simp [apAll, h]
theorem apAll_no {s : ByteArray} {e : Ed} {l : List Ed} (h : e.ok s.size = false) : apAll s (e :: l) = (⟨#[]⟩, 2) := by simp [apAll, h]

set_option maxHeartbeats 1000000 in
theorem applyAll_any (s : ByteArray) (A : Option Addr) (n c B : Nat) (l : List Ed) (w : World) (hl : Reads w B 3 A n (eds l)) (hB : B ≤ w.heap.size) (hn : n ≤ maxLen) (hs : s.size + sumIns l ≤ 9223372036854775807) :
    Calls Try.prog 16 #[.string s, .slice A n c] w fun e w' => e = .returned (.tuple #[.string (apAll s l).1, .int .i64 (apAll s l).2]) ∧ Below w.heap.size w w' := by
  have HL := Lib.hid hl
  have HLN := Lib.hid hl.len_eds
  have HS := Lib.hid hs
  unfold maxLen at hn
  clear hl hs
  go_enter Try.func16, Try.ntmps16
  go_wp2_with fail
  go_loopw [0, 12] (fun a b wr => ∃ (k : Nat) (T : ByteArray), k ≤ n ∧ b = .int .i64 k ∧ a = .string T ∧ Below w.heap.size w wr ∧ Hid (T.size + sumIns (l.drop k) ≤ 9223372036854775807) ∧ Hid (apAll s l = apAll T (l.drop k))) (fun _ b _ => n - (intOf b).toNat)
  case atStart => exact ⟨0, s, Nat.zero_le _, rfl, rfl, Below.refl _ _, HS.out, rfl⟩
  case round =>
    obtain ⟨k, T, hk, rfl, rfl, hb, HT, HA⟩ := hrel
    have hsz := hb.size
    by_cases hlt : k < n
    · obtain ⟨b, off, t, rfl, hbl, ht, h0, h1, h2⟩ := (HL.out.below (hb.mono hB)).ed_at hlt
      have hd := drop_cons_ed ht
      have e1 := HT.out
      have e2 := HA.out
      rw [hd] at e1 e2
      simp only [sumIns, List.map_cons, List.sum_cons] at e1
      have e3 : T.size + t.ins.size ≤ 9223372036854775807 := by omega
      have HE := Lib.hid e1
      have HA2 := Lib.hid e2
      obtain ⟨tp, td, ti⟩ := t
      simp only at h0 h1 h2 e3
      clear e1 e2 hd ht
      cases hok : Ed.ok T.size ⟨tp, td, ti⟩ with
      | true =>
        go_wp2_with (go_at_call 14; refine (apply_any T tp td ti _ e3).mono ?_; rintro e w1 ⟨rfl, hb1⟩; rw [apF_ok hok])
        go_roundw
        case rel =>
          refine ⟨k + 1, _, by omega, by go_num, rfl, (hb.alloc hsz _).trans (hb1.mono (by simp; omega)), ?_, ?_⟩
          · have h3 := apT_size T ⟨tp, td, ti⟩
            have h4 := HE.out
            simp only at h3 h4
            show (apT T ⟨tp, td, ti⟩).size + sumIns (l.drop (k + 1)) ≤ _
            simp only [sumIns]
            omega
          · rw [apAll_ok hok] at HA2
            exact HA2.out
        case measure => simp [intOf]; omega
      | false =>
        go_wp2_with (go_at_call 14; refine (apply_any T tp td ti _ e3).mono ?_; rintro e w1 ⟨rfl, hb1⟩; rw [apF_no hok])
        go_ret2
        refine ⟨?_, (hb.alloc hsz _).trans (hb1.mono (by simp; omega))⟩
        rw [HA2.out, apAll_no hok]
        rfl
    · have e2 := HA.out
      rw [List.drop_eq_nil_of_le (by have := HLN.out; omega)] at e2
      have HA2 := Lib.hid e2
      clear e2
      go_wp2_with fail
      go_ret2
      exact ⟨by rw [HA2.out]; rfl, hb⟩
end Go.Proofs.Ytocihnncfpmbnaa
