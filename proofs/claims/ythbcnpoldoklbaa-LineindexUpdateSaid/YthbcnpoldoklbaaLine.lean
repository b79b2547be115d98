/- The lines of a text: plain facts. -/
import Derived.Test.YthbcnpoldoklbaaBase
namespace Go.Proofs.Ythbcnpoldoklbaa
open Go.RowKit

def byteAt (s : ByteArray) (k : Nat) : UInt8 := s.data[k]?.getD 0
theorem byteAt_eq (s : ByteArray) (k : Nat) (h : k < s.size) : byteAt s k = s[k] := by
  have h' : k < s.data.size := h
  simp [byteAt, Array.getElem?_eq_getElem h']
  rfl
def nlAt (s : ByteArray) (i : Nat) : Bool := byteAt s i == 10
/-- The starts of the lines that begin behind a line feed among the first k bytes. -/
def startsTo (s : ByteArray) (k : Nat) : List Nat := ((List.range k).filter (nlAt s)).map (· + 1)
theorem startsTo_zero (s : ByteArray) : startsTo s 0 = [] := rfl
theorem startsTo_succ (s : ByteArray) (k : Nat) : startsTo s (k + 1) = if nlAt s k then startsTo s k ++ [k + 1] else startsTo s k := by
  unfold startsTo
  rw [List.range_succ, List.filter_append, List.map_append]
  by_cases h : nlAt s k = true
  · simp [h]
  · simp [h]
theorem startsTo_mem {s : ByteArray} {k x : Nat} (h : x ∈ startsTo s k) : 0 < x ∧ x ≤ k ∧ nlAt s (x - 1) = true := by
  unfold startsTo at h
  obtain ⟨i, hi, rfl⟩ := List.mem_map.1 h
  obtain ⟨h1, h2⟩ := List.mem_filter.1 hi
  have := List.mem_range.1 h1
  exact ⟨by omega, by omega, by simpa using h2⟩
theorem startsTo_more (s : ByteArray) (k : Nat) : ∀ j : Nat, ∃ r, startsTo s (k + j) = startsTo s k ++ r ∧ ∀ x ∈ r, k < x
  | 0 => ⟨[], by simp, by simp⟩
  | j + 1 => by
    obtain ⟨r, h1, h2⟩ := startsTo_more s k j
    rw [← Nat.add_assoc, startsTo_succ]
    split
    · refine ⟨r ++ [k + j + 1], by rw [h1, List.append_assoc], ?_⟩
      intro x hx
      rcases List.mem_append.1 hx with h | h
      · exact h2 x h
      · simp at h; omega
    · exact ⟨r, h1, h2⟩
theorem startsTo_split (s : ByteArray) {k m : Nat} (h : k ≤ m) : ∃ r, startsTo s m = startsTo s k ++ r ∧ ∀ x ∈ r, k < x := by
  obtain ⟨j, rfl⟩ : ∃ j, m = k + j := ⟨m - k, by omega⟩
  exact startsTo_more s k j
def starts (s : ByteArray) : List Nat := startsTo s s.size
/-- The line of an offset, and where it starts. -/
def lineNo (s : ByteArray) (o : Nat) : Nat := (startsTo s o).length
def lineAt (s : ByteArray) (o : Nat) : Nat := (startsTo s o).getLastD 0
theorem startsTo_length (s : ByteArray) (k : Nat) : (startsTo s k).length ≤ k := by
  unfold startsTo
  rw [List.length_map]
  have := List.length_filter_le (nlAt s) (List.range k)
  simpa using this
theorem lineNo_mono (s : ByteArray) {k m : Nat} (h : k ≤ m) : lineNo s k ≤ lineNo s m := by
  obtain ⟨r, h1, _⟩ := startsTo_split s h
  unfold lineNo
  rw [h1]
  simp
theorem lineAt_le (s : ByteArray) (o : Nat) : lineAt s o ≤ o := by
  unfold lineAt
  rcases List.eq_nil_or_concat (startsTo s o) with h | ⟨l, x, h⟩
  · rw [h]; exact Nat.zero_le _
  · rw [h, List.concat_eq_append, List.getLastD_concat]
    exact (startsTo_mem (s := s) (k := o) (x := x) (by rw [h]; simp)).2.1
/-- The element before the line's number is where the line starts. -/
theorem starts_before (s : ByteArray) {o : Nat} (h : o ≤ s.size) (h0 : 0 < lineNo s o) : (starts s)[lineNo s o - 1]? = some (lineAt s o) := by
  obtain ⟨r, h1, _⟩ := startsTo_split s h
  unfold starts lineAt
  unfold lineNo at h0 ⊢
  rw [h1, List.getElem?_append_left (by omega)]
  rcases List.eq_nil_or_concat (startsTo s o) with h | ⟨l, x, h⟩
  · rw [h] at h0; simp at h0
  · rw [h, List.concat_eq_append, List.getLastD_concat]
    simp
theorem lineAt_zero (s : ByteArray) {o : Nat} (h0 : lineNo s o = 0) : lineAt s o = 0 := by
  unfold lineNo at h0
  unfold lineAt
  rw [List.eq_nil_of_length_eq_zero h0]
  rfl
/-- The search's question has the answer 'no' below the line's number, 'yes' from there on. -/
theorem starts_below (s : ByteArray) {o : Nat} (h : o ≤ s.size) {i x : Nat} (hx : (starts s)[i]? = some x) : (o < x) ↔ lineNo s o ≤ i := by
  obtain ⟨r, h1, h2⟩ := startsTo_split s h
  unfold starts at hx
  rw [h1] at hx
  unfold lineNo
  by_cases hi : i < (startsTo s o).length
  · rw [List.getElem?_append_left hi] at hx
    have := (startsTo_mem (List.mem_of_getElem? hx)).2.1
    omega
  · rw [List.getElem?_append_right (by omega)] at hx
    have := h2 x (List.mem_of_getElem? hx)
    omega
theorem count_below (n m : Nat) (h : m ≤ n) (p : Nat → Bool) (hp : ∀ i, i < n → (p i = true ↔ m ≤ i)) : (List.range n).countP (fun i => !p i) = m := by
  obtain ⟨j, rfl⟩ : ∃ j, n = m + j := ⟨n - m, by omega⟩
  clear h
  induction j with
  | zero =>
    have : (List.range (m + 0)).countP (fun i => !p i) = (List.range (m + 0)).length := List.countP_eq_length.2 fun a ha => by
      have hlt := List.mem_range.1 ha
      have := hp a hlt
      cases hpa : p a with
      | false => rfl
      | true => have := this.1 hpa; omega
    rw [this, List.length_range]
    omega
  | succ j ih =>
    rw [← Nat.add_assoc, List.range_succ, List.countP_append, ih (fun i hi => hp i (by omega))]
    have := (hp (m + j) (by omega)).2 (by omega)
    simp [this]
def nats (l : List Nat) : List Value := l.map fun n : Nat => Value.int .i64 (n : Int)
theorem nats_append (l m : List Nat) : nats (l ++ m) = nats l ++ nats m := by simp [nats]
theorem Reads.nat_at {w : World} {B n : Nat} {A : Option Addr} {l : List Nat} (h : Reads w B 1 A n (nats l)) {k x : Nat} (hk : l[k]? = some x) : ∃ b off, A = some ⟨b, off, none⟩ ∧ b < B ∧ w.cell? ⟨b, off + k, none⟩ = some (.int .i64 x) := by
  have hlt : k < n := by
    have h1 := h.1
    have h2 := (List.getElem?_eq_some_iff.1 hk).1
    simp [nats] at h1
    omega
  obtain ⟨b, off, e, hb, hc⟩ := h.2 (by omega)
  exact ⟨b, off, e, hb, hc k _ (by simp [nats, hk])⟩
theorem Reads.nats_len {w : World} {B n : Nat} {A : Option Addr} {l : List Nat} (h : Reads w B 1 A n (nats l)) : l.length = n := by
  have := h.1
  simpa [nats] using this
end Go.Proofs.Ythbcnpoldoklbaa
