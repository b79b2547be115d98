/- What the rows of uses hold. -/
import Derived.Test.YtkeiakmfnammbaaKnRows
namespace Go.Proofs.Ytkeiakmfnammbaa
open Go.RowKit

def tsO (es : List Ed) (k : Nat) : List Int := (es[k]?.map Ed.ts).getD []
theorem tsO_at {es : List Ed} {k : Nat} {e : Ed} (h : es[k]? = some e) : tsO es k = e.ts := by simp [tsO, h]
/-- The rows behind k hyperedges and i tails of the next one. -/
def Usp (N : Nat) (us : List Ur) (es : List Ed) (k i : Nat) : Prop :=
  ∀ n, n < N → ∃ u, us[n]? = some u ∧ u.l.length ≤ 4 * k + i ∧ ∀ k', u.l.count k' = if k' < k then (tsO es k').count (n : Int) else if k' = k then ((tsO es k).take i).count (n : Int) else 0
theorem usp_start (N : Nat) (es : List Ed) : Usp N (List.replicate N noUr) es 0 0 := fun n hn => by
  refine ⟨noUr, by rw [List.getElem?_replicate, if_pos hn], by simp [noUr], fun k' => ?_⟩
  rw [if_neg (Nat.not_lt_zero _)]
  split <;> simp [noUr]
theorem usp_step {N : Nat} {us : List Ur} {es : List Ed} {k i t : Nat} {u : Ur} (h : Usp N us es k i) (ht : (tsO es k)[i]? = some (t : Int)) (htN : t < N) (hu : us[t]? = some u) (A : Option Addr) (c : Nat) :
    Usp N (us.set t ⟨A, c, u.l ++ [k]⟩) es k (i + 1) := fun n hn => by
  obtain ⟨u', hu', hl, hc⟩ := h n hn
  have htl := (List.getElem?_eq_some_iff.1 hu).1
  have htake : (tsO es k).take (i + 1) = (tsO es k).take i ++ [(t : Int)] := by rw [List.take_add_one, ht]; rfl
  by_cases hnt : t = n
  · subst hnt
    rw [hu] at hu'
    injection hu' with hu'
    subst hu'
    refine ⟨⟨A, c, u.l ++ [k]⟩, by rw [List.getElem?_set, if_pos rfl, if_pos htl], by simp; omega, fun k' => ?_⟩
    have := hc k'
    rw [htake, List.count_append, List.count_append]
    show List.count k' u.l + _ = _
    rw [this]
    by_cases h1 : k' < k
    · rw [if_pos h1, if_pos h1]
      have : ¬ k = k' := by omega
      simp [this]
    · rw [if_neg h1, if_neg h1]
      by_cases h2 : k' = k
      · subst h2; simp
      · have : ¬ k = k' := fun e => h2 e.symm
        simp [h2, this]
  · refine ⟨u', by rw [List.getElem?_set, if_neg hnt]; exact hu', by omega, fun k' => ?_⟩
    rw [hc k', htake, List.count_append]
    have : ¬ t = n := hnt
    have e : List.count (n : Int) [(t : Int)] = 0 := by
      rw [List.count_eq_zero]
      simp
      omega
    rw [e]
    rfl
theorem usp_next {N : Nat} {us : List Ur} {es : List Ed} {k i : Nat} (h : Usp N us es k i) (hi : i = (tsO es k).length) (h4 : i ≤ 4) : Usp N us es (k + 1) 0 := fun n hn => by
  obtain ⟨u, hu, hl, hc⟩ := h n hn
  refine ⟨u, hu, by omega, fun k' => ?_⟩
  rw [hc k']
  by_cases h1 : k' < k
  · rw [if_pos h1, if_pos (by omega)]
  · rw [if_neg h1]
    by_cases h2 : k' = k
    · subst h2
      rw [if_pos rfl, if_pos (by omega), hi, List.take_length]
    · rw [if_neg h2, if_neg (by omega)]
      split <;> simp
theorem usp_end {N : Nat} {us : List Ur} {es : List Ed} (h : Usp N us es es.length 0) {n : Nat} (hn : n < N) : ∃ u, us[n]? = some u ∧ u.l.length ≤ 4 * es.length ∧ (∀ k ∈ u.l, k < es.length) ∧ ∀ k e, es[k]? = some e → u.l.count k = e.ts.count (n : Int) := by
  obtain ⟨u, hu, hl, hc⟩ := h n hn
  refine ⟨u, hu, by omega, fun k hk => ?_, fun k e he => ?_⟩
  · have h1 := List.count_pos_iff.2 hk
    rw [hc k] at h1
    by_cases h2 : k < es.length
    · exact h2
    · rw [if_neg h2] at h1
      split at h1 <;> simp at h1
  · rw [hc k, if_pos (List.getElem?_eq_some_iff.1 he).1, tsO_at he]
def oini (es : List Ed) (k : Nat) : List Int := (es.take k).map (fun e => (e.ts.length : Int)) ++ List.replicate (es.length - k) 0
theorem oini_len {es : List Ed} {k : Nat} (h : k ≤ es.length) : (oini es k).length = es.length := by simp [oini]; omega
theorem oini_set {es : List Ed} {k : Nat} {e : Ed} (h : es[k]? = some e) : (oini es k).set k (e.ts.length : Int) = oini es (k + 1) := by
  have hk := (List.getElem?_eq_some_iff.1 h).1
  unfold oini
  rw [List.set_append_right _ _ (by simp; omega)]
  rw [List.take_add_one, h]
  rw [show es.length - k = (es.length - (k + 1)) + 1 by omega, List.replicate_succ]
  have e2 : k - ((es.take k).map fun e => (e.ts.length : Int)).length = 0 := by simp; omega
  rw [e2]
  simp
theorem oini_end (es : List Ed) : oini es es.length = es.map fun e => (e.ts.length : Int) := by simp [oini]
theorem nats_one (l : List Nat) {u : Value} (h : u ∈ nats l) : u.oneCell' = true := by
  simp only [nats, ints, List.mem_map] at h
  obtain ⟨x, _, rfl⟩ := h
  rfl
end Go.Proofs.Ytkeiakmfnammbaa
