/- Texts that agree where a token was examined have the same token: plain facts. -/
import Derived.Test.YtdpdggmafmebeaaMunch
namespace Go.Proofs.Ytdpdggmafmebeaa
open Go.RowKit

/-- The result depends on the examined bytes alone. -/
theorem scan_agree (d : Dfa) (s s' : ByteArray) (i i' : Nat) : ∀ (m m' st look : Nat) (kind : Int) (size : Nat), m = s.size - i - look → m' = s'.size - i' - look → i + look ≤ s.size →
    i + (scan d s i m st look kind size).2.2 ≤ s.size → i' + (scan d s i m st look kind size).2.2 ≤ s'.size → (∀ j, j < (scan d s i m st look kind size).2.2 → byteAt s' (i' + j) = byteAt s (i + j)) →
    scan d s' i' m' st look kind size = scan d s i m st look kind size
  | 0, m', st, look, kind, size, hm, hm', hl, h1, h2, hb => by simp only [scan] at h1; omega
  | m + 1, 0, st, look, kind, size, hm, hm', hl, h1, h2, hb => by
    have : look + 1 ≤ (scan d s i (m + 1) st look kind size).2.2 := by
      simp only [scan]
      split
      · exact Nat.le_refl _
      · split
        · exact (scan_look2 m _ _ _ _)
        · exact (scan_look2 m _ _ _ _)
    omega
  | m + 1, m' + 1, st, look, kind, size, hm, hm', hl, h1, h2, hb => by
    have hlt : look < (scan d s i (m + 1) st look kind size).2.2 := by
      simp only [scan]
      split
      · exact Nat.lt_succ_self _
      · split
        · exact Nat.lt_of_lt_of_le (Nat.lt_succ_self _) (scan_look2 m _ _ _ _)
        · exact Nat.lt_of_lt_of_le (Nat.lt_succ_self _) (scan_look2 m _ _ _ _)
    have hbe := hb look hlt
    simp only [scan, hbe] at h1 h2 hb ⊢
    split
    · rfl
    · rename_i hx
      rw [if_neg hx] at h1 h2 hb
      split
      · rename_i ha
        rw [if_pos ha] at h1 h2 hb
        exact scan_agree d s s' i i' m m' _ _ _ _ (by omega) (by omega) (by omega) h1 h2 hb
      · rename_i ha
        rw [if_neg ha] at h1 h2 hb
        exact scan_agree d s s' i i' m m' _ _ _ _ (by omega) (by omega) (by omega) h1 h2 hb
where
  scan_look2 {d : Dfa} {s : ByteArray} {i : Nat} : ∀ (m st look : Nat) (kind : Int) (size : Nat), look ≤ (scan d s i m st look kind size).2.2
    | 0, st, look, kind, size => by simp only [scan]; omega
    | m + 1, st, look, kind, size => by
      simp only [scan]
      split
      · exact Nat.le_succ _
      · split
        · exact Nat.le_trans (Nat.le_succ _) (scan_look2 m _ _ _ _)
        · exact Nat.le_trans (Nat.le_succ _) (scan_look2 m _ _ _ _)
/-- .. and of a text that agrees up to its end. -/
theorem scan_shift (d : Dfa) (s s' : ByteArray) (i i' : Nat) : ∀ (m st look : Nat) (kind : Int) (size : Nat), (∀ j, look ≤ j → j < look + m → byteAt s' (i' + j) = byteAt s (i + j)) →
    scan d s' i' m st look kind size = scan d s i m st look kind size
  | 0, _, _, _, _, _ => rfl
  | m + 1, st, look, kind, size, hb => by
    have hbe := hb look (Nat.le_refl _) (by omega)
    simp only [scan, hbe]
    split
    · rfl
    · split
      · exact scan_shift d s s' i i' m _ _ _ _ (fun j h1 h2 => hb j (by omega) (by omega))
      · exact scan_shift d s s' i i' m _ _ _ _ (fun j h1 h2 => hb j (by omega) (by omega))

theorem byteAt_append_left (s t : ByteArray) (j : Nat) (h : j < s.size) : byteAt (s ++ t) j = byteAt s j := by
  have h1 : (s ++ t).data = s.data ++ t.data := by simp
  unfold byteAt
  rw [h1, Array.getElem?_append_left h]
theorem extract_append_left (s t : ByteArray) (i j : Nat) (h : j ≤ s.size) : (s ++ t).extract i j = s.extract i j := by
  apply ByteArray.ext
  have h1 : ((s ++ t).extract i j).data = (s.data ++ t.data).extract i j := by simp
  have h2 : (s.extract i j).data = s.data.extract i j := by simp
  rw [h1, h2, Array.extract_append]
  have : s.data.size = s.size := rfl
  rw [show t.data.extract (i - s.data.size) (j - s.data.size) = #[] by rw [show j - s.data.size = 0 by omega]; simp]
  simp
theorem extract_extract' (s : ByteArray) (a b i j : Nat) (h : a + j ≤ b) : (s.extract a b).extract i j = s.extract (a + i) (a + j) := by
  rw [ByteArray.extract_extract]
  congr 1
  omega

/-- Appending keeps a token whose lookahead did not reach the end. -/
theorem tokAt_append (d : Dfa) (s t : ByteArray) (i : Nat) (hi : i < s.size) (h : (tokAt d s i).pos + (tokAt d s i).look ≤ s.size) : tokAt d (s ++ t) i = tokAt d s i := by
  have h' : i + (scan0 d s i).2.2 ≤ s.size := by simp only [tokAt] at h; omega
  have e : scan0 d (s ++ t) i = scan0 d s i := by
    refine scan_agree d s (s ++ t) i i _ _ 0 0 (-1) 1 (by omega) (by omega) (by omega) h' ?_ ?_
    · rw [ByteArray.size_append]; exact Nat.le_trans h' (by omega)
    · intro j hj
      exact byteAt_append_left s t _ (by have : j < (scan0 d s i).2.2 := hj; omega)
  simp only [tokAt, e]
  rw [extract_append_left _ _ _ _ (scan0_bd d s i hi).2]
theorem lexFrom_append (d : Dfa) (s t : ByteArray) : ∀ (k f f' i : Nat) (x : Tok), (s ++ t).size - i ≤ f' → (lexFrom d s f i)[k]? = some x →
    (∀ (j : Nat) (u : Tok), j ≤ k → (lexFrom d s f i)[j]? = some u → u.pos + u.look ≤ s.size) → (lexFrom d (s ++ t) f' i)[k]? = some x
  | k, 0, f', i, x, _, h, _ => by simp [lexFrom] at h
  | k, f + 1, f', i, x, hf, h, hj => by
    simp only [lexFrom] at h hj
    by_cases hi : i < s.size
    · rw [if_pos hi] at h hj
      have h0 := hj 0 _ (Nat.zero_le _) rfl
      have e := tokAt_append d s t i hi h0
      have hi' : i < (s ++ t).size := by rw [ByteArray.size_append]; omega
      obtain ⟨g, rfl⟩ : ∃ g, f' = g + 1 := ⟨f' - 1, by omega⟩
      simp only [lexFrom]
      rw [if_pos hi', e]
      have hb := tokAt_bd d s i hi
      match k, h with
      | 0, h => simpa using h
      | k + 1, h =>
        rw [List.getElem?_cons_succ] at h ⊢
        refine lexFrom_append d s t k f g _ x (by omega) h (fun j u hjk hu => hj (j + 1) u (by omega) (by simpa using hu))
    · rw [if_neg hi] at h
      simp at h
theorem lexL_append (d : Dfa) (s t : ByteArray) (k : Nat) (x : Tok) (h : (lexL d s)[k]? = some x) (hj : ∀ (j : Nat) (u : Tok), j ≤ k → (lexL d s)[j]? = some u → u.pos + u.look ≤ s.size) : (lexL d (s ++ t))[k]? = some x :=
  lexFrom_append d s t k _ _ 0 x (by omega) h hj

/-- Every text that begins with the examined bytes has the same first token. -/
theorem lexL_local (d : Dfa) (s t : ByteArray) (o : Nat) (ho : o < s.size) (h : (o : Int) + (tokAt d s o).look ≤ s.size) :
    (lexL d (s.extract o (o + (scan0 d s o).2.2) ++ t))[0]? = some ⟨(tokAt d s o).kind, 0, (tokAt d s o).text, (tokAt d s o).look⟩ := by
  have h' : o + (scan0 d s o).2.2 ≤ s.size := by simp only [tokAt] at h; omega
  have hb := scan0_bd d s o ho
  have hl := (scan_look d s o (s.size - o) 0 0 (-1) 1 (by omega) (by omega) (by omega)).1
  have hl' : (scan0 d s o).2.1 ≤ (scan0 d s o).2.2 := hl
  have hxs : (s.extract o (o + (scan0 d s o).2.2)).size = (scan0 d s o).2.2 := by rw [ByteArray.size_extract]; omega
  have hsz : (s.extract o (o + (scan0 d s o).2.2) ++ t).size = (scan0 d s o).2.2 + t.size := by rw [ByteArray.size_append, hxs]
  have hpos : 0 < (s.extract o (o + (scan0 d s o).2.2) ++ t).size := by rw [hsz]; omega
  have e : scan0 d (s.extract o (o + (scan0 d s o).2.2) ++ t) 0 = scan0 d s o := by
    refine scan_agree d s _ o 0 _ _ 0 0 (-1) 1 (by omega) (by omega) (by omega) h' ?_ ?_
    · rw [hsz, Nat.zero_add]; exact Nat.le_add_right _ _
    · intro j hj
      have hj' : j < (scan0 d s o).2.2 := hj
      rw [Nat.zero_add, byteAt_append_left _ _ _ (by rw [hxs]; exact hj'), byteAt_extract s o _ j h' (by omega)]
  have hst := lexFrom_step d (s.extract o (o + (scan0 d s o).2.2) ++ t) 0 hpos
  simp only [Nat.sub_zero] at hst
  unfold lexL
  rw [hst, List.getElem?_cons_zero]
  simp only [tokAt, e]
  rw [extract_append_left _ _ _ _ (by rw [hxs]; omega), extract_extract' _ _ _ _ _ (by omega)]
  simp

def Tok.shift (a : Nat) (t : Tok) : Tok := ⟨t.kind, t.pos + a, t.text, t.look⟩
theorem tokAt_shift (d : Dfa) (s : ByteArray) (a i : Nat) (hi : a + i < s.size) : (tokAt d (s.extract a s.size) i).shift a = tokAt d s (a + i) := by
  have hx : (s.extract a s.size).size = s.size - a := by rw [ByteArray.size_extract]; omega
  have hb := scan0_bd d s (a + i) hi
  have e : scan0 d (s.extract a s.size) i = scan0 d s (a + i) := by
    unfold scan0
    rw [hx, show s.size - a - i = s.size - (a + i) by omega]
    refine scan_shift d s _ (a + i) i _ 0 0 (-1) 1 (fun j _ h => ?_)
    rw [byteAt_extract s a s.size _ (Nat.le_refl _) (by omega), Nat.add_assoc]
  simp only [tokAt, Tok.shift, e]
  rw [extract_extract' _ _ _ _ _ (by omega)]
  simp only [Tok.mk.injEq, true_and, and_true, Nat.add_assoc]
  omega
theorem lexFrom_shift (d : Dfa) (s : ByteArray) (a : Nat) (ha : a ≤ s.size) : ∀ (f i : Nat), (lexFrom d (s.extract a s.size) f i).map (Tok.shift a) = lexFrom d s f (a + i)
  | 0, _ => rfl
  | f + 1, i => by
    have hx : (s.extract a s.size).size = s.size - a := by rw [ByteArray.size_extract]; omega
    simp only [lexFrom, hx]
    by_cases h : a + i < s.size
    · rw [if_pos (by omega), if_pos h, List.map_cons, tokAt_shift d s a i h, lexFrom_shift d s a ha f _]
      have : (tokAt d (s.extract a s.size) i).text.size = (tokAt d s (a + i)).text.size := by rw [← tokAt_shift d s a i h]; rfl
      rw [this, Nat.add_assoc]
    · rw [if_neg (by omega), if_neg h]; rfl
theorem lexFrom_drop (d : Dfa) (s : ByteArray) : ∀ (k i : Nat), k ≤ (lexFrom d s (s.size - i) i).length → (lexFrom d s (s.size - i) i).drop k = lexFrom d s (s.size - (i + offs (lexFrom d s (s.size - i) i) k)) (i + offs (lexFrom d s (s.size - i) i) k)
  | 0, i, _ => by rw [offs_zero]; rfl
  | k + 1, i, h => by
    by_cases hi : i < s.size
    · rw [lexFrom_step d s i hi] at h ⊢
      rw [List.drop_succ_cons, offs_cons, ← Nat.add_assoc]
      exact lexFrom_drop d s k _ (by simpa using h)
    · rw [lexFrom_end d s _ i (by omega)] at h
      simp at h
/-- Lexing from the beginning of token k on gives the remaining tokens, shifted. -/
theorem lexL_restart (d : Dfa) (s : ByteArray) (k : Nat) (hk : k < (lexL d s).length) : (lexL d (s.extract (offs (lexL d s) k) s.size)).map (Tok.shift (offs (lexL d s) k)) = (lexL d s).drop k := by
  have hx := chain_at d s _ 0 k _ (chain_lexL d s) (List.getElem?_eq_getElem hk)
  rw [Nat.zero_add] at hx
  have h1 := lexFrom_drop d s k 0 (by simpa [lexL] using Nat.le_of_lt hk)
  simp only [Nat.sub_zero, Nat.zero_add] at h1
  have h2 : (lexL d s).drop k = lexFrom d s (s.size - offs (lexL d s) k) (offs (lexL d s) k) := h1
  rw [h2]
  change (lexFrom d (s.extract (offs (lexL d s) k) s.size) (s.extract (offs (lexL d s) k) s.size).size 0).map (Tok.shift (offs (lexL d s) k)) = _
  rw [lexFrom_shift d s _ (Nat.le_of_lt hx.1)]
  apply lexFrom_fuel
  · rw [ByteArray.size_extract]; simp only [lexL] at hx; omega
  · simp [lexL]
end Go.Proofs.Ytdpdggmafmebeaa
