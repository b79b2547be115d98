/- What 'scan' finds is the longest match: plain facts. -/
import Derived.Test.YtdpdggmafmebeaaRun
import Derived.Test.YtdpdggmafmebeaaChain
namespace Go.Proofs.Ytdpdggmafmebeaa
open Go.RowKit

def stAt (d : Dfa) (s : ByteArray) (o : Nat) : Nat → Int
  | 0 => 0
  | m + 1 => d.stepI (stAt d s o m) (byteAt s (o + m))
theorem byteAt_extract (s : ByteArray) (o e j : Nat) (he : e ≤ s.size) (hj : o + j < e) : byteAt (s.extract o e) j = byteAt s (o + j) := by
  have h1 : (s.extract o e).data = s.data.extract o e := by simp
  unfold byteAt
  rw [h1, Array.getElem?_extract]
  have : s.data.size = s.size := rfl
  rw [if_pos (by omega)]
theorem runTo_extract (d : Dfa) (s : ByteArray) (o e : Nat) (he : e ≤ s.size) : ∀ m, o + m ≤ e → runTo d (s.extract o e) m = stAt d s o m
  | 0, _ => rfl
  | m + 1, h => by
    simp only [runTo, stAt]
    rw [runTo_extract d s o e he m (by omega), byteAt_extract s o e m he (by omega)]
theorem runL_extract (d : Dfa) (s : ByteArray) (o e : Nat) (he : e ≤ s.size) (ho : o ≤ e) : runL d (s.extract o e) = d.acI (stAt d s o (e - o)) := by
  unfold runL
  rw [ByteArray.size_extract, runTo_extract d s o e he _ (by omega)]
  congr 2
  omega
theorem acI_bd {d : Dfa} {k : Nat} (ho : d.Ok k) (x : Int) (h : x < d.next.length) : -1 ≤ d.acI x := by
  unfold Dfa.acI
  split
  · omega
  · exact ho.ac_bd (by omega)
theorem stAt_bd {d : Dfa} {k : Nat} (ho : d.Ok k) (s : ByteArray) (o : Nat) : ∀ m, -1 ≤ stAt d s o m ∧ stAt d s o m < d.next.length
  | 0 => by have := ho.pos; simp [stAt]; omega
  | m + 1 => stepI_bd ho _ (stAt_bd ho s o m).2 _
theorem stAt_dead (d : Dfa) (s : ByteArray) (o m : Nat) (h : stAt d s o m < 0) : ∀ j, stAt d s o (m + j) < 0
  | 0 => h
  | j + 1 => by
    have := stAt_dead d s o m h j
    rw [← Nat.add_assoc]
    simp only [stAt, Dfa.stepI]
    rw [if_pos this]
    omega

def Best (d : Dfa) (s : ByteArray) (o L : Nat) (K : Int) (n : Nat) : Prop :=
  (0 ≤ K ∧ 1 ≤ n ∧ n ≤ L ∧ d.acI (stAt d s o n) = K ∧ ∀ m, n < m → m ≤ L → d.acI (stAt d s o m) < 0) ∨ (K = -1 ∧ n = 1 ∧ ∀ m, 1 ≤ m → m ≤ L → d.acI (stAt d s o m) < 0)
theorem Best.dead {d : Dfa} {s : ByteArray} {o L : Nat} {K : Int} {n : Nat} (h : Best d s o L K n) (hd : stAt d s o (L + 1) < 0) (M : Nat) (hM : L ≤ M) : Best d s o M K n := by
  have hx : ∀ m, L < m → d.acI (stAt d s o m) < 0 := by
    intro m hm
    have := stAt_dead d s o (L + 1) hd (m - (L + 1))
    rw [show L + 1 + (m - (L + 1)) = m by omega] at this
    simp [Dfa.acI, this]
  rcases h with ⟨h1, h2, h3, h4, h5⟩ | ⟨h1, h2, h3⟩
  · refine .inl ⟨h1, h2, by omega, h4, fun m hm _ => ?_⟩
    rcases Nat.lt_or_ge L m with h | h
    · exact hx m h
    · exact h5 m hm h
  · refine .inr ⟨h1, h2, fun m hm _ => ?_⟩
    rcases Nat.lt_or_ge L m with h | h
    · exact hx m h
    · exact h3 m hm h
theorem scan_best {d : Dfa} {k : Nat} (ho : d.Ok k) (s : ByteArray) (o : Nat) : ∀ (m st look : Nat) (kind : Int) (size : Nat), m = s.size - o - look → o + look ≤ s.size → stAt d s o look = st → st < d.next.length → Best d s o look kind size →
    Best d s o (s.size - o) (scan d s o m st look kind size).1 (scan d s o m st look kind size).2.1
  | 0, st, look, kind, size, hm, hl, hs, hst, h => by
    simp only [scan]
    rw [show s.size - o = look by omega]
    exact h
  | m + 1, st, look, kind, size, hm, hl, hs, hst, h => by
    have e1 : stAt d s o (look + 1) = d.to st (byteAt s (o + look)) := by
      simp only [stAt, hs, Dfa.stepI]
      rw [if_neg (by omega)]
      simp
    have hbd := ho.to_bd hst (byteAt s (o + look))
    simp only [scan]
    split
    · rename_i hx
      exact h.dead (by rw [e1]; exact hx) _ (by omega)
    · rename_i hx
      obtain ⟨x, hxe⟩ := Int.eq_ofNat_of_zero_le (Int.not_lt.1 hx)
      rw [hxe] at e1 hbd ⊢
      rw [Int.toNat_natCast]
      have ha : d.acI (stAt d s o (look + 1)) = d.ac x := by
        rw [e1]; unfold Dfa.acI; rw [if_neg (by omega), Int.toNat_natCast]
      split
      · rename_i hac
        exact scan_best ho s o m _ _ _ _ (by omega) (by omega) e1 (by omega) (.inl ⟨hac, by omega, by omega, ha, fun m h1 h2 => by omega⟩)
      · rename_i hac
        refine scan_best ho s o m _ _ _ _ (by omega) (by omega) e1 (by omega) ?_
        rcases h with ⟨h1, h2, h3, h4, h5⟩ | ⟨h1, h2, h3⟩
        · refine .inl ⟨h1, h2, by omega, h4, fun m hm1 hm2 => ?_⟩
          rcases Nat.lt_or_ge look m with h | h
          · obtain rfl : m = look + 1 := by omega
            rw [ha]; omega
          · exact h5 m hm1 h
        · refine .inr ⟨h1, h2, fun m hm1 hm2 => ?_⟩
          rcases Nat.lt_or_ge look m with h | h
          · obtain rfl : m = look + 1 := by omega
            rw [ha]; omega
          · exact h3 m hm1 h
theorem tokAt_best {d : Dfa} {k : Nat} (ho : d.Ok k) (s : ByteArray) (o : Nat) (h : o < s.size) : Best d s o (s.size - o) (tokAt d s o).kind (tokAt d s o).text.size := by
  rw [tokAt_size d s o h]
  exact scan_best ho s o _ 0 0 (-1) 1 (by omega) (by omega) rfl ho.pos (.inr ⟨rfl, rfl, fun m h1 h2 => by omega⟩)
/-- The automaton accepts the text of a token with its kind, and no longer part; no part at an error token. -/
theorem munch_at {d : Dfa} {k : Nat} (ho : d.Ok k) (s : ByteArray) (o e : Nat) (h : o < s.size) (h1 : o < e) (h2 : e ≤ s.size) :
    (e = o + (tokAt d s o).text.size → runL d (s.extract o e) = (tokAt d s o).kind) ∧ (o + (tokAt d s o).text.size < e ∨ (tokAt d s o).kind = -1 → runL d (s.extract o e) < 0) := by
  rw [runL_extract d s o e h2 (by omega)]
  have hac := acI_bd ho _ (stAt_bd ho s o (e - o)).2
  rcases tokAt_best ho s o h with ⟨b1, b2, b3, b4, b5⟩ | ⟨b1, b2, b3⟩
  · refine ⟨fun he => ?_, fun he => ?_⟩
    · rw [show e - o = (tokAt d s o).text.size by omega]; exact b4
    · rcases he with he | he
      · exact b5 _ (by omega) (by omega)
      · omega
  · have := b3 (e - o) (by omega) (by omega)
    exact ⟨fun _ => by omega, fun _ => this⟩
theorem tokAt_kind {d : Dfa} {k : Nat} (ho : d.Ok k) (s : ByteArray) (o : Nat) (h : o < s.size) : (tokAt d s o).kind = -1 → (tokAt d s o).text.size = 1 := by
  intro he
  rcases tokAt_best ho s o h with ⟨b1, _⟩ | ⟨_, b2, _⟩
  · omega
  · exact b2
end Go.Proofs.Ytdpdggmafmebeaa
