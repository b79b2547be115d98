/- Position: the search, the closure that it asks, the position. -/
import Derived.Test.YthbcnpoldoklbaaIndexAsk
import Derived.Shelf.SlSorted.Search
import Derived.Shelf.Lay
import Derived.Ground.SlsoProg
namespace Go.Proofs.Ythbcnpoldoklbaa
open Go.RowKit Go.Proofs Go.Shelf Go.Lib Go.Sort

shelf_lay SlLaysO.n16 Slso 16 at Try as Try.search

theorem starts_pair (s : ByteArray) : List.Pairwise (· < ·) (starts s) := by
  unfold starts startsTo
  rw [List.pairwise_map]
  exact ((List.pairwise_lt_range (n := s.size)).filter _).imp (by intro a b h; omega)
theorem starts_lt {s : ByteArray} {i j x y : Nat} (h : i < j) (hx : (starts s)[i]? = some x) (hy : (starts s)[j]? = some y) : x < y := by
  obtain ⟨h1, rfl⟩ := List.getElem?_eq_some_iff.1 hx
  obtain ⟨h2, rfl⟩ := List.getElem?_eq_some_iff.1 hy
  exact List.pairwise_iff_getElem.1 (starts_pair s) i j h1 h2 h
theorem spanF_le (s : ByteArray) {k : Nat} (hk : k ≤ (starts s).length) : spanF s k ≤ spanT s k ∧ spanT s k ≤ s.size := by
  unfold spanF spanT
  by_cases h1 : k < (starts s).length
  · have hy := List.getElem?_eq_getElem (l := starts s) (i := k) h1
    rw [if_pos h1, hy]
    have p := starts_pos hy
    simp only [Option.getD_some]
    by_cases h0 : k = 0
    · rw [if_pos h0]; omega
    · have hx := List.getElem?_eq_getElem (l := starts s) (i := k - 1) (by omega)
      have := starts_lt (by omega) hx hy
      rw [if_neg h0, hx, Option.getD_some]
      omega
  · rw [if_neg h1]
    by_cases h0 : k = 0
    · rw [if_pos h0]; omega
    · have hx := List.getElem?_eq_getElem (l := starts s) (i := k - 1) (by omega)
      have := starts_pos hx
      rw [if_neg h0, hx, Option.getD_some]
      omega
theorem spanF_line (s : ByteArray) {o : Nat} (h : o ≤ s.size) : spanF s (lineNo s o) = lineAt s o := by
  unfold spanF
  by_cases h0 : lineNo s o = 0
  · rw [if_pos h0, lineAt_zero s h0]
  · rw [if_neg h0, starts_before s h (by omega)]
    rfl

set_option maxHeartbeats 1000000 in
theorem closure_any (b2 b3 b off n c i x : Nat) (o : Int) (W : World) (hi : i < n) (h2 : W.cell? ⟨b2, 1, none⟩ = some (.slice (some ⟨b, off, none⟩) n c)) (h3 : W.cell? ⟨b3, 0, none⟩ = some (.int .i64 o)) (hx : W.cell? ⟨b, off + i, none⟩ = some (.int .i64 x)) :
    Calls Try.prog 24 (#[.int .i64 i] ++ #[.pointer (some ⟨b2, 0, none⟩), .pointer (some ⟨b3, 0, none⟩)]) W fun e w' => e = .returned (.bool (decide (o < x))) ∧ ∃ q, w' = W.drewN q := by
  have hiz : (i : Int) < (n : Int) := by omega
  go_enter Try.func24, Try.ntmps24
  go_wp2_with fail
  go_quiet (fail)
  go_wp2_with fail
  go_ret
  exact ⟨by first | rfl | simp, _, rfl⟩
end Go.Proofs.Ythbcnpoldoklbaa
