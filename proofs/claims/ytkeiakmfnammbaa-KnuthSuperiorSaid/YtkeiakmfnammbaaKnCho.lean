/- The chosen hyperedges: the first ones that attain the values. -/
import Derived.Test.YtkeiakmfnammbaaKnInv
namespace Go.Proofs.Ytkeiakmfnammbaa
open Go.RowKit

/-- Whether a hyperedge attains the value of its head. -/
def att (V : Nat → Vl) (e : Ed) : Bool := decide ((V e.hd.toNat).c < 1099511627776) && (decide ((ev V e).c = (V e.hd.toNat).c) && decide ((ev V e).s = (V e.hd.toNat).s))
theorem att_iff {V : Nat → Vl} {e : Ed} : att V e = true ↔ (V e.hd.toNat).c < 1099511627776 ∧ ev V e = V e.hd.toNat := by
  simp only [att, Bool.and_eq_true, decide_eq_true_eq]
  constructor
  · rintro ⟨h1, h2, h3⟩; exact ⟨h1, Vl.ext' h2 h3⟩
  · rintro ⟨h1, h2⟩; exact ⟨h1, by rw [h2], by rw [h2]⟩
def isC (V : Nat → Vl) (i : Nat) (e : Ed) : Bool := decide (e.hd.toNat = i) && att V e
/-- The first hyperedge that attains the value of node i, or -1. -/
def cho (V : Nat → Vl) (es : List Ed) (i : Nat) : Int := match es.findIdx? (isC V i) with
  | some k => (k : Int)
  | none => -1
theorem cho_nil (V : Nat → Vl) (i : Nat) : cho V [] i = -1 := rfl
theorem cho_some {V : Nat → Vl} {es : List Ed} {i k : Nat} (h : es.findIdx? (isC V i) = some k) : cho V es i = (k : Int) := by unfold cho; rw [h]
theorem cho_none {V : Nat → Vl} {es : List Ed} {i : Nat} (h : es.findIdx? (isC V i) = none) : cho V es i = -1 := by unfold cho; rw [h]
theorem cho_bd (V : Nat → Vl) (es : List Ed) (i : Nat) : -1 ≤ cho V es i ∧ cho V es i < es.length := by
  unfold cho
  split
  · rename_i k h
    have := (List.findIdx?_eq_some_iff_getElem.1 h).1
    omega
  · omega
/-- One hyperedge more behind the others. -/
theorem cho_snoc (V : Nat → Vl) (es : List Ed) (e : Ed) (i : Nat) : cho V (es ++ [e]) i = if cho V es i < 0 ∧ isC V i e = true then (es.length : Int) else cho V es i := by
  unfold cho
  rw [List.findIdx?_append]
  cases h : es.findIdx? (isC V i) with
  | some k => simp; omega
  | none =>
    by_cases hc : isC V i e = true
    · simp [List.findIdx?_cons, hc]
    · simp [List.findIdx?_cons, hc]
theorem cho_take {V : Nat → Vl} {es : List Ed} {k : Nat} {e : Ed} (h : es[k]? = some e) (i : Nat) : cho V (es.take (k + 1)) i = if cho V (es.take k) i < 0 ∧ isC V i e = true then (k : Int) else cho V (es.take k) i := by
  have hk := (List.getElem?_eq_some_iff.1 h).1
  rw [List.take_add_one, h]
  have := cho_snoc V (es.take k) e i
  rw [List.length_take, Nat.min_eq_left (by omega)] at this
  exact this
/-- The chosen hyperedges of all nodes. -/
def chs (V : Nat → Vl) (es : List Ed) (N : Nat) : List Int := (List.range N).map (cho V es)
theorem chs_len (V : Nat → Vl) (es : List Ed) (N : Nat) : (chs V es N).length = N := by simp [chs]
theorem chs_at {V : Nat → Vl} {es : List Ed} {N i : Nat} (h : i < N) : (chs V es N)[i]? = some (cho V es i) := by simp [chs, h]
theorem chs_nil (V : Nat → Vl) (N : Nat) : chs V [] N = List.replicate N (-1) := by
  apply List.ext_getElem?
  intro i
  rw [List.getElem?_replicate]
  by_cases h : i < N
  · rw [chs_at h, if_pos h]; rfl
  · rw [if_neg h, List.getElem?_eq_none (by rw [chs_len]; omega)]
theorem chs_same {V : Nat → Vl} {es : List Ed} {N k : Nat} {e : Ed} (h : es[k]? = some e) (hno : ¬ (cho V (es.take k) e.hd.toNat < 0 ∧ att V e = true)) : chs V (es.take (k + 1)) N = chs V (es.take k) N := by
  unfold chs
  apply List.map_congr_left
  intro i _
  rw [cho_take h, if_neg]
  rintro ⟨h1, h2⟩
  simp only [isC, Bool.and_eq_true, decide_eq_true_eq] at h2
  exact hno ⟨by rw [h2.1]; exact h1, h2.2⟩
theorem chs_set {V : Nat → Vl} {es : List Ed} {N k n : Nat} {e : Ed} (h : es[k]? = some e) (hn : e.hd.toNat = n) (h1 : cho V (es.take k) n < 0) (h2 : att V e = true) : (chs V (es.take k) N).set n (k : Int) = chs V (es.take (k + 1)) N := by
  apply List.ext_getElem?
  intro i
  rw [List.getElem?_set, chs_len]
  by_cases hi : i < N
  · rw [chs_at hi, chs_at hi, cho_take h]
    by_cases e1 : n = i
    · subst e1
      rw [if_pos rfl, if_pos hi, if_pos ⟨h1, by simp only [isC, hn, h2]; simp⟩]
    · rw [if_neg e1, if_neg]
      rintro ⟨_, h4⟩
      simp only [isC, Bool.and_eq_true, decide_eq_true_eq] at h4
      exact e1 (hn.symm.trans h4.1)
  · by_cases e1 : n = i
    · subst e1
      rw [if_pos rfl, if_neg hi, List.getElem?_eq_none (by rw [chs_len]; omega)]
    · rw [if_neg e1, List.getElem?_eq_none (by rw [chs_len]; omega), List.getElem?_eq_none (by rw [chs_len]; omega)]
theorem cho_pos {V : Nat → Vl} {es : List Ed} {i : Nat} (h : 0 ≤ cho V es i) : ∃ (k : Nat) (e : Ed), cho V es i = (k : Int) ∧ es[k]? = some e ∧ e.hd.toNat = i ∧ att V e = true ∧ ∀ (j : Nat) (e' : Ed), j < k → es[j]? = some e' → ¬ (e'.hd.toNat = i ∧ att V e' = true) := by
  cases hf : es.findIdx? (isC V i) with
  | none => rw [cho_none hf] at h; omega
  | some k =>
    obtain ⟨hk, h1, h2⟩ := List.findIdx?_eq_some_iff_getElem.1 hf
    refine ⟨k, es[k], cho_some hf, List.getElem?_eq_getElem hk, ?_, ?_, fun j e' hj he' hc => ?_⟩
    · simp only [isC, Bool.and_eq_true, decide_eq_true_eq] at h1; exact h1.1
    · simp only [isC, Bool.and_eq_true, decide_eq_true_eq] at h1; exact h1.2
    · have := h2 j hj
      obtain ⟨hj', hee⟩ := List.getElem?_eq_some_iff.1 he'
      rw [hee] at this
      exact this (by simp only [isC, Bool.and_eq_true, decide_eq_true_eq]; exact hc)
theorem cho_neg {V : Nat → Vl} {es : List Ed} {i : Nat} (h : cho V es i < 0) : ∀ e ∈ es, ¬ (e.hd.toNat = i ∧ att V e = true) := by
  cases hf : es.findIdx? (isC V i) with
  | some k => rw [cho_some hf] at h; omega
  | none =>
    intro e he hc
    have := List.findIdx?_eq_none_iff.1 hf e he
    simp only [isC, hc.1, hc.2] at this
    simp at this
theorem cho_le {V : Nat → Vl} {es : List Ed} {i k : Nat} {e : Ed} (he : es[k]? = some e) (h1 : e.hd.toNat = i) (h2 : att V e = true) : 0 ≤ cho V es i ∧ cho V es i ≤ k := by
  have h0 : 0 ≤ cho V es i := by
    by_cases hn : cho V es i < 0
    · exact absurd ⟨h1, h2⟩ (cho_neg hn e (List.mem_of_getElem? he))
    · omega
  refine ⟨h0, ?_⟩
  obtain ⟨k', e', hk', _, _, _, hlt⟩ := cho_pos h0
  rw [hk']
  by_cases hl : k < k'
  · exact absurd ⟨h1, h2⟩ (hlt k e hl he)
  · omega
end Go.Proofs.Ytkeiakmfnammbaa
