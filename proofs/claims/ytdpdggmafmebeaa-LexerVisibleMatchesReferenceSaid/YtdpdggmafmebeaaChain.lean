/- The tokens of a text follow one another: plain facts on 'lexL'. -/
import Derived.Test.YtdpdggmafmebeaaText
namespace Go.Proofs.Ytdpdggmafmebeaa
open Go.RowKit

def Chain (d : Dfa) (s : ByteArray) : Nat → List Tok → Prop
  | i, [] => i = s.size
  | i, t :: l => i < s.size ∧ t = tokAt d s i ∧ Chain d s (i + t.text.size) l
theorem chain_lexFrom (d : Dfa) (s : ByteArray) : ∀ (f i : Nat), s.size - i ≤ f → i ≤ s.size → Chain d s i (lexFrom d s f i)
  | 0, i, h, hi => by simp only [lexFrom, Chain]; omega
  | f + 1, i, h, hi => by
    simp only [lexFrom]
    split
    · rename_i hlt
      have := tokAt_bd d s i hlt
      exact ⟨hlt, rfl, chain_lexFrom d s f _ (by omega) (by omega)⟩
    · simp only [Chain]; omega
theorem chain_lexL (d : Dfa) (s : ByteArray) : Chain d s 0 (lexL d s) := chain_lexFrom d s _ 0 (by omega) (by omega)

/-- The offset behind the first k tokens. -/
def offs (l : List Tok) (k : Nat) : Nat := ((l.take k).map fun t => t.text.size).sum
theorem offs_zero (l : List Tok) : offs l 0 = 0 := by simp [offs]
theorem offs_succ (l : List Tok) (k : Nat) (t : Tok) (h : l[k]? = some t) : offs l (k + 1) = offs l k + t.text.size := by
  simp [offs, take_snoc_tok l k t h]
theorem offs_cons (t : Tok) (l : List Tok) (k : Nat) : offs (t :: l) (k + 1) = t.text.size + offs l k := by simp [offs]
theorem chain_at (d : Dfa) (s : ByteArray) : ∀ (l : List Tok) (i k : Nat) (t : Tok), Chain d s i l → l[k]? = some t → i + offs l k < s.size ∧ t = tokAt d s (i + offs l k)
  | [], i, k, t, _, h => by simp at h
  | x :: l, i, 0, t, hc, h => by
    simp at h
    subst h
    obtain ⟨h1, h2, _⟩ := hc
    rw [offs_zero]
    exact ⟨h1, h2⟩
  | x :: l, i, k + 1, t, hc, h => by
    obtain ⟨_, _, h3⟩ := hc
    have := chain_at d s l _ k t h3 (by simpa using h)
    rw [offs_cons, ← Nat.add_assoc]
    exact this
theorem chain_end (d : Dfa) (s : ByteArray) : ∀ (l : List Tok) (i : Nat), Chain d s i l → i + offs l l.length = s.size
  | [], i, h => by simpa [offs, Chain] using h
  | x :: l, i, h => by
    obtain ⟨_, _, h3⟩ := h
    have := chain_end d s l _ h3
    rw [List.length_cons, offs_cons]
    omega
theorem extract_step (s : ByteArray) (i n : Nat) (h : i + n ≤ s.size) : s.extract 0 i ++ s.extract i (i + n) = s.extract 0 (i + n) := by
  rw [ByteArray.extract_append_extract]
  congr 1 <;> omega
theorem chain_text (d : Dfa) (s : ByteArray) : ∀ (l : List Tok) (i : Nat), Chain d s i l → textFrom (s.extract 0 i) l = s
  | [], i, h => by
    have h' : i = s.size := h
    subst h'
    simp [textFrom]
  | x :: l, i, h => by
    obtain ⟨h1, h2, h3⟩ := h
    have hb := tokAt_bd d s i h1
    have hs := tokAt_size d s i h1
    have e : x.text = s.extract i (i + x.text.size) := by rw [h2, hs]; rfl
    have := chain_text d s l _ h3
    simp only [textFrom, List.foldl_cons] at *
    rw [e, extract_step s i _ (by rw [h2]; exact hb.2)]
    exact this
theorem textL_lexL (d : Dfa) (s : ByteArray) : textL (lexL d s) = s := by
  have := chain_text d s _ 0 (chain_lexL d s)
  have e : s.extract 0 0 = ByteArray.empty := by simp
  rw [e] at this
  exact this
/-- Every token's text, lookahead and place. -/
theorem scan_look (d : Dfa) (s : ByteArray) (i : Nat) : ∀ (m st look : Nat) (kind : Int) (size : Nat), m = s.size - i - look → i + look ≤ s.size → size ≤ look ∨ size = 1 →
    (scan d s i m st look kind size).2.1 ≤ (scan d s i m st look kind size).2.2 ∧ i + (scan d s i m st look kind size).2.2 ≤ s.size + 1
  | 0, st, look, kind, size, hm, hl, h => by simp only [scan]; omega
  | m + 1, st, look, kind, size, hm, hl, h => by
    simp only [scan]
    split
    · simp only; omega
    · split
      · exact scan_look d s i m _ _ _ _ (by omega) (by omega) (by omega)
      · exact scan_look d s i m _ _ _ _ (by omega) (by omega) (by omega)
theorem tokAt_look (d : Dfa) (s : ByteArray) (i : Nat) (hi : i < s.size) : ((tokAt d s i).text.size : Int) ≤ (tokAt d s i).look ∧ (tokAt d s i).look ≤ (s.size : Int) - i + 1 := by
  have := scan_look d s i (s.size - i) 0 0 (-1) 1 (by omega) (by omega) (by omega)
  rw [tokAt_size d s i hi]
  simp only [tokAt, scan0]
  omega
end Go.Proofs.Ytdpdggmafmebeaa
