/- awake returns true. -/
import Derived.Test.YthpdfgfefmoaaaaRelWords
import Derived.Test.YthpdfgfefmoaaaaRelRefUpd
import Derived.Test.YthpdfgfefmoaaaaRSame
namespace Go.Proofs.Ythpdfgfefmoaaaa
open Go.RowKit

def rxS : ByteArray := ⟨#[97, 98, 32, 99, 100, 32, 101, 102]⟩
def rxT : ByteArray := ⟨#[97, 98, 32, 99, 100, 101, 32, 101, 102]⟩
def rxI : ByteArray := ⟨#[100, 101]⟩
def rxO : List Tok := [⟨0, 0, ⟨#[97, 98]⟩, 3⟩, ⟨1, 2, ⟨#[32]⟩, 2⟩, ⟨0, 3, ⟨#[99, 100]⟩, 3⟩, ⟨1, 5, ⟨#[32]⟩, 2⟩, ⟨0, 6, ⟨#[101, 102]⟩, 3⟩]
def rxL : List Tok := [⟨0, 0, ⟨#[97, 98]⟩, 3⟩, ⟨1, 2, ⟨#[32]⟩, 2⟩, ⟨0, 3, ⟨#[99, 100, 101]⟩, 4⟩, ⟨1, 6, ⟨#[32]⟩, 2⟩, ⟨0, 7, ⟨#[101, 102]⟩, 3⟩]
theorem rxO_eq : lexL wordsD rxS = rxO := toks_of_dat (by decide +kernel)
theorem rxL_eq : lexL wordsD rxT = rxL := toks_of_dat (by decide +kernel)
theorem rx_ap : apT rxS ⟨4, 1, rxI⟩ = rxT := by
  have h : (apT rxS ⟨4, 1, rxI⟩).data.toList = rxT.data.toList := by decide +kernel
  exact ByteArray.ext (Array.toList_inj.1 h)
theorem rx_ok : Ed.ok rxS.size ⟨4, 1, rxI⟩ = true := by decide +kernel
theorem rx_no : Ed.ok rxS.size ⟨9, 0, ⟨#[]⟩⟩ = false := by decide +kernel
theorem rx_pre : preL 4 rxO = 2 := by decide +kernel
theorem rx_first : First wordsD rxS ⟨4, 1, rxI⟩ 3 3 := by
  have hI : rxI.size = 2 := rfl
  have o3 : offs rxO 3 = 5 := rfl
  have l3 : offs rxL 3 = 6 := rfl
  have l2 : offs rxL 2 = 3 := rfl
  refine ⟨⟨?_, ?_, ?_, ?_, ?_⟩, fun m' k' h => ?_⟩
  · show preL 4 (lexL wordsD rxS) ≤ 3
    rw [rxO_eq, rx_pre]; omega
  · rw [rx_ap, rxL_eq]; decide
  · rw [rxO_eq]; decide
  · show (4 : Int).toNat + rxI.size ≤ _
    rw [rx_ap, rxL_eq, l3, hI]; decide
  · show _ + rxI.size = _ + (1 : Int).toNat
    rw [rx_ap, rxL_eq, rxO_eq, l3, o3, hI]; decide
  · have h1 := h.fm
    have h2 := h.q
    change preL 4 (lexL wordsD rxS) ≤ m' at h1
    change (4 : Int).toNat + rxI.size ≤ _ at h2
    rw [rxO_eq, rx_pre] at h1
    rw [rx_ap, rxL_eq, hI] at h2
    rcases Nat.lt_or_ge m' 3 with h3 | h3
    · obtain rfl : m' = 2 := by omega
      rw [l2] at h2
      simp at h2
    · exact h3

theorem run_eql_change (w : World) (a b c x y z : Int) :
    (binOp .eql 35 (.agg #[.int .i64 a, .int .i64 b, .int .i64 c]) (.agg #[.int .i64 x, .int .i64 y, .int .i64 z])).run Try.prog w = .ok (.bool (a == x && (b == y && c == z))) w := by
  simp only [binOp]
  by_cases h1 : a = x
  · by_cases h2 : b = y
    · by_cases h3 : c = z <;> simp [go_sem, Op.equal, Op.maxDepth, h1, h2, h3]
    · simp [go_sem, Op.equal, Op.maxDepth, h1, h2]
  · simp [go_sem, Op.equal, Op.maxDepth, h1]

set_option maxRecDepth 100000 in
set_option maxHeartbeats 1000000 in
theorem awake_any (w : World) : Calls Try.prog 10 #[] w fun e w' => e = .returned (.bool true) ∧ Below w.heap.size w w' := by
  have hec := run_eql_change
  go_enter Try.func10, Try.ntmps10
  go_wp2_with fail
  refine (words_any _).mono ?_
  rintro e w1 ⟨v, rfl, d1, hb1⟩
  have hs1 := hb1.size
  have D1 := Lib.hid (d1.alloc (Nat.le_refl _) (.cells #[.slice v.Ac v.nc v.cc, .slice v.An v.nn v.cn, .slice v.Aa v.na v.ca] 25))
  have K1 := Blk.new' w1 25 #[.slice v.Ac v.nc v.cc, .slice v.An v.nn v.cn, .slice v.Aa v.na v.ca] rfl
  go_wp2_with fail
  refine (refLex_any v wordsD 3 w1.heap.size rxS _ D1.out (by simp) words_ok (by decide)).mono ?_
  rw [rxO_eq]
  rintro e w2 ⟨A, c, rfl, hc1, hc2, r2, hb2⟩
  simp only [World.size_alloc] at hb2
  have hs2 := hb2.size
  simp only [World.size_alloc] at hs2
  have D2 := Lib.hid (D1.out.below (hb2.mono (by omega)))
  have K2 := K1.below hb2 (by omega)
  have R2 : Hid (Reads w2 w2.heap.size 4 A 5 (toks (lexL wordsD rxS))) := by show Reads _ _ _ _ _ _; rw [rxO_eq]; exact r2
  have k0 := K2.cell 0
  have k1 := K2.cell 1
  have k2 := K2.cell 2
  simp at k0 k1 k2
  have hc1 : 5 ≤ c := hc1
  clear r2 K1 D1
  go_wp2_with fail
  refine (updateOk_any v wordsD 3 w2.heap.size rxS A 5 c 4 1 rxI w2 (D2.out.more (by omega)) words_ok R2.out (Nat.le_refl _) hc1 hc2 (by decide) rx_ok).mono ?_
  rintro e w3 ⟨A3, c3, m, k, he, hc3, hm3, r3, hf, hb3⟩
  obtain ⟨rfl, rfl⟩ := hf.uniq rx_first
  rw [show preL (⟨(4 : Nat), (1 : Nat), rxI⟩ : Ed).pos (lexL wordsD rxS) = 2 by rw [rxO_eq]; exact rx_pre, show apT rxS ⟨(4 : Nat), (1 : Nat), rxI⟩ = rxT from rx_ap, rxL_eq] at he
  rw [show apT rxS ⟨(4 : Nat), (1 : Nat), rxI⟩ = rxT from rx_ap, rxL_eq] at r3 hc3
  change e = .returned (.tuple #[.slice A3 5 c3, .agg #[.int .i64 2, .int .i64 1, .int .i64 1], .int .i64 0]) at he
  change 5 ≤ c3 at hc3
  change Reads w3 w3.heap.size 4 A3 5 (toks rxL) at r3
  subst he
  have hs3 := hb3.size
  have K3 := (K2.below hb3 (by omega)).alloc (.cells #[.int .i64 2, .int .i64 1, .int .i64 1] 35)
  have D3 := Lib.hid ((D2.out.below (hb3.mono (by omega))).alloc (B := w1.heap.size) (by omega) (.cells #[.int .i64 2, .int .i64 1, .int .i64 1] 35))
  have R3 := Lib.hid ((R2.out.below hb3).alloc hs3 (.cells #[.int .i64 2, .int .i64 1, .int .i64 1] 35))
  have L3 := Lib.hid (r3.alloc (Nat.le_refl _) (.cells #[.int .i64 2, .int .i64 1, .int .i64 1] 35))
  have X3 := Blk.new' w3 35 #[.int .i64 2, .int .i64 1, .int .i64 1] rfl
  have hbw : Below w.heap.size w (w3.alloc (.cells #[.int .i64 2, .int .i64 1, .int .i64 1] 35)) := ((((hb1.alloc (by omega) _).trans (hb2.mono (by omega))).trans (hb3.mono (by omega))).alloc (by omega) _)
  have g0 := K3.cell 0
  have g1 := K3.cell 1
  have g2 := K3.cell 2
  simp at g0 g1 g2
  clear k0 k1 k2 r3 D2 R2
  go_wp2_with fail
  have hd9 := decide_eq_true (show w3.heap.size < (w3.alloc (.cells #[.int .i64 2, .int .i64 1, .int .i64 1] 35)).heap.size by simp)
  refine (updateNo_any v wordsD w2.heap.size rxS A 5 c 9 0 ⟨#[]⟩ _ R3.out (by simp; omega) (by simp [maxLen]) (by decide) rx_no).mono ?_
  rintro e w4 ⟨rfl, hb4⟩
  simp only [World.size_alloc] at hb4
  have hs4 := hb4.size
  simp only [World.size_alloc] at hs4
  have K4 := (K3.below hb4 (by omega)).alloc (.cells #[.int .i64 0, .int .i64 0, .int .i64 0] 35)
  have X4 := (X3.below hb4 (by omega)).alloc (.cells #[.int .i64 0, .int .i64 0, .int .i64 0] 35)
  have D4 := Lib.hid ((D3.out.below (hb4.mono (by omega))).alloc (B := w1.heap.size) (by omega) (.cells #[.int .i64 0, .int .i64 0, .int .i64 0] 35))
  have L4 := Lib.hid ((L3.out.below (hb4.mono (by omega))).alloc (B := w3.heap.size) (by omega) (.cells #[.int .i64 0, .int .i64 0, .int .i64 0] 35))
  have hbw4 : Below w.heap.size w (w4.alloc (.cells #[.int .i64 0, .int .i64 0, .int .i64 0] 35)) := (hbw.trans (hb4.mono (by omega))).alloc (by omega) _
  have j0 := K4.cell 0
  have j1 := K4.cell 1
  have j2 := K4.cell 2
  simp at j0 j1 j2
  clear g0 g1 g2 hd9
  go_wp2_with fail
  refine (refLex_any v wordsD 3 w1.heap.size rxT _ D4.out (by simp; omega) words_ok (by decide)).mono ?_
  rw [rxL_eq]
  rintro e w5 ⟨A5, c5, rfl, hc5, hm5, r5, hb5⟩
  change Reads w5 w5.heap.size 4 A5 5 (toks rxL) at r5
  change 5 ≤ c5 at hc5
  simp only [World.size_alloc] at hb5
  have hs5 := hb5.size
  simp only [World.size_alloc] at hs5
  have X5 := X4.below hb5 (by omega)
  have L5 := Lib.hid (L4.out.below (hb5.mono (by omega)))
  have x0 := X5.cell 0
  have x1 := X5.cell 1
  have x2 := X5.cell 2
  simp at x0 x1 x2
  have hbw5 := hbw4.trans (hb5.mono (by omega))
  go_wp2_with fail
  refine (same_any A3 A5 5 5 c3 c5 w3.heap.size w5.heap.size rxL rxL w5 L5.out r5 (by simp [maxLen]) (by simp [maxLen])).mono ?_
  rw [sameT_iff.2 rfl]
  rintro e w6 ⟨rfl, n6, rfl⟩
  go_wp2_with fail
  go_ret
  exact ⟨rfl, below_drewN hbw5 _⟩
end Go.Proofs.Ythpdfgfefmoaaaa
