/- The lines, joined with line feeds, are the text: plain facts. -/
import Derived.Test.YthbcnpoldoklbaaLinSame
namespace Go.Proofs.Ythbcnpoldoklbaa
open Go.RowKit

theorem span_next {s : ByteArray} {k : Nat} (h : k < (starts s).length) : spanF s (k + 1) = spanT s k + 1 ∧ nlAt s (spanT s k) = true ∧ spanT s k < s.size := by
  have hx := List.getElem?_eq_getElem (l := starts s) (i := k) h
  have hm := startsTo_mem (s := s) (k := s.size) (List.mem_of_getElem? hx)
  unfold spanF spanT
  rw [if_neg (by omega), if_pos h, Nat.add_sub_cancel, hx, Option.getD_some]
  exact ⟨by omega, hm.2.2, by omega⟩
/-- The text up to the end of line k. -/
def joinTo (s : ByteArray) (k : Nat) : ByteArray := s.extract 0 (spanT s k)
theorem extract_join (s : ByteArray) {i j : Nat} (h1 : i ≤ j) (h2 : j ≤ s.size) : s.extract 0 i ++ s.extract i j = s.extract 0 j := by
  apply ByteArray.ext
  simp only [ByteArray.data_append, ByteArray.data_extract]
  apply Array.toList_inj.1
  simp [Array.toList_extract, List.extract_eq_take_drop]
  omega
theorem byte_one (s : ByteArray) {i : Nat} (h : i < s.size) (hn : nlAt s i = true) : s.extract i (i + 1) = ⟨#[10]⟩ := by
  apply ByteArray.ext
  have hd : i < s.data.size := h
  have hb : byteAt s i = 10 := by simpa [nlAt] using hn
  have hb' : s.data[i] = 10 := by
    unfold byteAt at hb
    rw [Array.getElem?_eq_getElem hd] at hb
    simpa using hb
  simp only [ByteArray.data_extract]
  apply Array.ext
  · simp; omega
  · intro j h1 h2
    have hj : j = 0 := by simp at h2; omega
    subst hj
    simp [hb']
theorem join_zero (s : ByteArray) : (⟨#[]⟩ : ByteArray) ++ lnText s 0 = joinTo s 0 := by
  have : spanF s 0 = 0 := rfl
  unfold lnText joinTo
  rw [this]
  exact ByteArray.empty_append
theorem join_next {s : ByteArray} {k : Nat} (h : k < (starts s).length) : joinTo s k ++ ⟨#[10]⟩ ++ lnText s (k + 1) = joinTo s (k + 1) := by
  obtain ⟨h1, h2, h3⟩ := span_next h
  have h4 := spanF_le s (k := k + 1) (by omega)
  unfold joinTo lnText
  rw [← byte_one s h3 h2, extract_join s (by omega) (by omega), ← h1, extract_join s (by omega) (by omega)]
theorem join_end (s : ByteArray) : joinTo s (starts s).length = s := by
  unfold joinTo spanT
  rw [if_neg (by omega)]
  exact ByteArray.extract_zero_size
/-- No line holds a line feed. -/
theorem line_clean {s : ByteArray} {k i : Nat} (hk : k ≤ (starts s).length) (h1 : spanF s k ≤ i) (h2 : i < spanT s k) : nlAt s i = false := by
  cases hc : nlAt s i with
  | false => rfl
  | true =>
    exfalso
    have h3 := (spanF_le s hk).2
    have hx := starts_at (show i < s.size by omega) hc
    have hl := (List.getElem?_eq_some_iff.1 hx).1
    by_cases h4 : lineNo s i < k
    · have hy := List.getElem?_eq_getElem (l := starts s) (i := k - 1) (by omega)
      have hF : spanF s k = (starts s)[k - 1] := by unfold spanF; rw [if_neg (by omega), hy]; rfl
      rcases Nat.lt_or_ge (lineNo s i) (k - 1) with h5 | h5
      · have := starts_lt h5 hx hy; omega
      · have h6 : lineNo s i = k - 1 := by omega
        rw [h6, hy] at hx
        injection hx with hx
        omega
    · have hkl : k < (starts s).length := by omega
      have hy := List.getElem?_eq_getElem (l := starts s) (i := k) hkl
      have hT : spanT s k = (starts s)[k] - 1 := by unfold spanT; rw [if_pos hkl, hy]; rfl
      rcases Nat.lt_or_ge k (lineNo s i) with h5 | h5
      · have := starts_lt h5 hy hx; omega
      · have h6 : lineNo s i = k := by omega
        rw [h6, hy] at hx
        injection hx with hx
        omega
end Go.Proofs.Ythbcnpoldoklbaa
