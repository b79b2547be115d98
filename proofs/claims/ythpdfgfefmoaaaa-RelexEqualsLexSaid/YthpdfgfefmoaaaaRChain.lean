/- The tokens of a text follow one another; texts that agree where a token was examined have the same token: plain facts. -/
import Derived.Test.YthpdfgfefmoaaaaRText
namespace Go.Proofs.Ythpdfgfefmoaaaa
open Go.RowKit


def Chain (d : Dfa) (s : ByteArray) : Nat → List Tok → Prop
  | i, [] => i = s.size
  | i, t :: l => i < s.size ∧ t = tokAt d s i ∧ Chain d s (i + t.text.size) l
theorem chain_lexFrom (d : Dfa) (s : ByteArray) : ∀ (f i : Nat), s.size - i ≤ f → i ≤ s.size → Chain d s i (lexFrom d s f i)
  | 0, i, h, hi => by simp only [lexFrom, Chain]; omega
  | f + 1, i, h, hi => by
    simp only [lexFrom]
    split
    · rename_i hlt
      have := tokAt_bd d s i hlt
      exact ⟨hlt, rfl, chain_lexFrom d s f _ (by omega) (by omega)⟩
    · simp only [Chain]; omega
theorem chain_lexL (d : Dfa) (s : ByteArray) : Chain d s 0 (lexL d s) := chain_lexFrom d s _ 0 (by omega) (by omega)

/-- The offset behind the first k tokens. -/
def offs (l : List Tok) (k : Nat) : Nat := ((l.take k).map fun t => t.text.size).sum
theorem offs_zero (l : List Tok) : offs l 0 = 0 := by simp [offs]
theorem offs_succ (l : List Tok) (k : Nat) (t : Tok) (h : l[k]? = some t) : offs l (k + 1) = offs l k + t.text.size := by
  simp [offs, take_snoc_tok l k t h]
theorem offs_cons (t : Tok) (l : List Tok) (k : Nat) : offs (t :: l) (k + 1) = t.text.size + offs l k := by simp [offs]
theorem chain_at (d : Dfa) (s : ByteArray) : ∀ (l : List Tok) (i k : Nat) (t : Tok), Chain d s i l → l[k]? = some t → i + offs l k < s.size ∧ t = tokAt d s (i + offs l k)
  | [], i, k, t, _, h => by simp at h
  | x :: l, i, 0, t, hc, h => by
    simp at h
    subst h
    obtain ⟨h1, h2, _⟩ := hc
    rw [offs_zero]
    exact ⟨h1, h2⟩
  | x :: l, i, k + 1, t, hc, h => by
    obtain ⟨_, _, h3⟩ := hc
    have := chain_at d s l _ k t h3 (by simpa using h)
    rw [offs_cons, ← Nat.add_assoc]
    exact this
theorem chain_end (d : Dfa) (s : ByteArray) : ∀ (l : List Tok) (i : Nat), Chain d s i l → i + offs l l.length = s.size
  | [], i, h => by simpa [offs, Chain] using h
  | x :: l, i, h => by
    obtain ⟨_, _, h3⟩ := h
    have := chain_end d s l _ h3
    rw [List.length_cons, offs_cons]
    omega
theorem extract_step (s : ByteArray) (i n : Nat) (h : i + n ≤ s.size) : s.extract 0 i ++ s.extract i (i + n) = s.extract 0 (i + n) := by
  rw [ByteArray.extract_append_extract]
  congr 1 <;> omega
theorem chain_text (d : Dfa) (s : ByteArray) : ∀ (l : List Tok) (i : Nat), Chain d s i l → textFrom (s.extract 0 i) l = s
  | [], i, h => by
    have h' : i = s.size := h
    subst h'
    simp [textFrom]
  | x :: l, i, h => by
    obtain ⟨h1, h2, h3⟩ := h
    have hb := tokAt_bd d s i h1
    have hs := tokAt_size d s i h1
    have e : x.text = s.extract i (i + x.text.size) := by rw [h2, hs]; rfl
    have := chain_text d s l _ h3
    simp only [textFrom, List.foldl_cons] at *
    rw [e, extract_step s i _ (by rw [h2]; exact hb.2)]
    exact this
theorem textL_lexL (d : Dfa) (s : ByteArray) : textL (lexL d s) = s := by
  have := chain_text d s _ 0 (chain_lexL d s)
  have e : s.extract 0 0 = ByteArray.empty := by simp
  rw [e] at this
  exact this
/-- Every token's text, lookahead and place. -/
theorem scan_look (d : Dfa) (s : ByteArray) (i : Nat) : ∀ (m st look : Nat) (kind : Int) (size : Nat), m = s.size - i - look → i + look ≤ s.size → size ≤ look ∨ size = 1 →
    (scan d s i m st look kind size).2.1 ≤ (scan d s i m st look kind size).2.2 ∧ i + (scan d s i m st look kind size).2.2 ≤ s.size + 1
  | 0, st, look, kind, size, hm, hl, h => by simp only [scan]; omega
  | m + 1, st, look, kind, size, hm, hl, h => by
    simp only [scan]
    split
    · simp only; omega
    · split
      · exact scan_look d s i m _ _ _ _ (by omega) (by omega) (by omega)
      · exact scan_look d s i m _ _ _ _ (by omega) (by omega) (by omega)
theorem tokAt_look (d : Dfa) (s : ByteArray) (i : Nat) (hi : i < s.size) : ((tokAt d s i).text.size : Int) ≤ (tokAt d s i).look ∧ (tokAt d s i).look ≤ (s.size : Int) - i + 1 := by
  have := scan_look d s i (s.size - i) 0 0 (-1) 1 (by omega) (by omega) (by omega)
  rw [tokAt_size d s i hi]
  simp only [tokAt, scan0]
  omega
theorem byteAt_extract (s : ByteArray) (o e j : Nat) (he : e ≤ s.size) (hj : o + j < e) : byteAt (s.extract o e) j = byteAt s (o + j) := by
  have h1 : (s.extract o e).data = s.data.extract o e := by simp
  unfold byteAt
  rw [h1, Array.getElem?_extract]
  have : s.data.size = s.size := rfl
  rw [if_pos (by omega)]
/-- The result depends on the examined bytes alone. -/
theorem scan_agree (d : Dfa) (s s' : ByteArray) (i i' : Nat) : ∀ (m m' st look : Nat) (kind : Int) (size : Nat), m = s.size - i - look → m' = s'.size - i' - look → i + look ≤ s.size →
    i + (scan d s i m st look kind size).2.2 ≤ s.size → i' + (scan d s i m st look kind size).2.2 ≤ s'.size → (∀ j, j < (scan d s i m st look kind size).2.2 → byteAt s' (i' + j) = byteAt s (i + j)) →
    scan d s' i' m' st look kind size = scan d s i m st look kind size
  | 0, m', st, look, kind, size, hm, hm', hl, h1, h2, hb => by simp only [scan] at h1; omega
  | m + 1, 0, st, look, kind, size, hm, hm', hl, h1, h2, hb => by
    have : look + 1 ≤ (scan d s i (m + 1) st look kind size).2.2 := by
      simp only [scan]
      split
      · exact Nat.le_refl _
      · split
        · exact (scan_look2 m _ _ _ _)
        · exact (scan_look2 m _ _ _ _)
    omega
  | m + 1, m' + 1, st, look, kind, size, hm, hm', hl, h1, h2, hb => by
    have hlt : look < (scan d s i (m + 1) st look kind size).2.2 := by
      simp only [scan]
      split
      · exact Nat.lt_succ_self _
      · split
        · exact Nat.lt_of_lt_of_le (Nat.lt_succ_self _) (scan_look2 m _ _ _ _)
        · exact Nat.lt_of_lt_of_le (Nat.lt_succ_self _) (scan_look2 m _ _ _ _)
    have hbe := hb look hlt
    simp only [scan, hbe] at h1 h2 hb ⊢
    split
    · rfl
    · rename_i hx
      rw [if_neg hx] at h1 h2 hb
      split
      · rename_i ha
        rw [if_pos ha] at h1 h2 hb
        exact scan_agree d s s' i i' m m' _ _ _ _ (by omega) (by omega) (by omega) h1 h2 hb
      · rename_i ha
        rw [if_neg ha] at h1 h2 hb
        exact scan_agree d s s' i i' m m' _ _ _ _ (by omega) (by omega) (by omega) h1 h2 hb
where
  scan_look2 {d : Dfa} {s : ByteArray} {i : Nat} : ∀ (m st look : Nat) (kind : Int) (size : Nat), look ≤ (scan d s i m st look kind size).2.2
    | 0, st, look, kind, size => by simp only [scan]; omega
    | m + 1, st, look, kind, size => by
      simp only [scan]
      split
      · exact Nat.le_succ _
      · split
        · exact Nat.le_trans (Nat.le_succ _) (scan_look2 m _ _ _ _)
        · exact Nat.le_trans (Nat.le_succ _) (scan_look2 m _ _ _ _)
/-- .. and of a text that agrees up to its end. -/
theorem scan_shift (d : Dfa) (s s' : ByteArray) (i i' : Nat) : ∀ (m st look : Nat) (kind : Int) (size : Nat), (∀ j, look ≤ j → j < look + m → byteAt s' (i' + j) = byteAt s (i + j)) →
    scan d s' i' m st look kind size = scan d s i m st look kind size
  | 0, _, _, _, _, _ => rfl
  | m + 1, st, look, kind, size, hb => by
    have hbe := hb look (Nat.le_refl _) (by omega)
    simp only [scan, hbe]
    split
    · rfl
    · split
      · exact scan_shift d s s' i i' m _ _ _ _ (fun j h1 h2 => hb j (by omega) (by omega))
      · exact scan_shift d s s' i i' m _ _ _ _ (fun j h1 h2 => hb j (by omega) (by omega))

theorem byteAt_append_left (s t : ByteArray) (j : Nat) (h : j < s.size) : byteAt (s ++ t) j = byteAt s j := by
  have h1 : (s ++ t).data = s.data ++ t.data := by simp
  unfold byteAt
  rw [h1, Array.getElem?_append_left h]
theorem extract_append_left (s t : ByteArray) (i j : Nat) (h : j ≤ s.size) : (s ++ t).extract i j = s.extract i j := by
  apply ByteArray.ext
  have h1 : ((s ++ t).extract i j).data = (s.data ++ t.data).extract i j := by simp
  have h2 : (s.extract i j).data = s.data.extract i j := by simp
  rw [h1, h2, Array.extract_append]
  have : s.data.size = s.size := rfl
  rw [show t.data.extract (i - s.data.size) (j - s.data.size) = #[] by rw [show j - s.data.size = 0 by omega]; simp]
  simp
theorem extract_extract' (s : ByteArray) (a b i j : Nat) (h : a + j ≤ b) : (s.extract a b).extract i j = s.extract (a + i) (a + j) := by
  rw [ByteArray.extract_extract]
  congr 1
  omega

theorem lexFrom_drop (d : Dfa) (s : ByteArray) : ∀ (k i : Nat), k ≤ (lexFrom d s (s.size - i) i).length → (lexFrom d s (s.size - i) i).drop k = lexFrom d s (s.size - (i + offs (lexFrom d s (s.size - i) i) k)) (i + offs (lexFrom d s (s.size - i) i) k)
  | 0, i, _ => by rw [offs_zero]; rfl
  | k + 1, i, h => by
    by_cases hi : i < s.size
    · rw [lexFrom_step d s i hi] at h ⊢
      rw [List.drop_succ_cons, offs_cons, ← Nat.add_assoc]
      exact lexFrom_drop d s k _ (by simpa using h)
    · rw [lexFrom_end d s _ i (by omega)] at h
      simp at h
end Go.Proofs.Ythpdfgfefmoaaaa
