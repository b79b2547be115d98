/- Multiplying all costs: plain facts. -/
import Derived.Test.YtkeiakmfnammbaaKnRowsB
namespace Go.Proofs.Ytkeiakmfnammbaa
open Go.RowKit

def sumC (l : List Vl) : Int := (l.map Vl.c).sum
def sumS (l : List Vl) : Int := (l.map Vl.s).sum
theorem sums_pos : ∀ {l : List Vl}, (∀ v ∈ l, Ordy v) → 0 ≤ sumC l ∧ 0 ≤ sumS l
  | [], _ => ⟨Int.le_refl _, Int.le_refl _⟩
  | v :: l, h => by
    have ih := sums_pos (l := l) (fun u hu => h u (by simp [hu]))
    have hv := h v (by simp)
    unfold Ordy at hv
    simp only [sumC, sumS, List.map_cons, List.sum_cons] at *
    omega
theorem fold_closed : ∀ {l : List Vl} {a b : Int}, 0 ≤ a → 0 ≤ b → (∀ v ∈ l, Ordy v) → l.foldl vstep ⟨min a 1099511627776, min b 1099511627776⟩ = ⟨min (a + sumC l) 1099511627776, min (b + sumS l) 1099511627776⟩
  | [], a, b, _, _, _ => by simp [sumC, sumS]
  | v :: l, a, b, ha, hb, h => by
    have hv := h v (by simp)
    unfold Ordy at hv
    have ih := fold_closed (l := l) (a := a + v.c) (b := b + v.s) (by omega) (by omega) (fun u hu => h u (by simp [hu]))
    have e : vstep ⟨min a 1099511627776, min b 1099511627776⟩ v = ⟨min (a + v.c) 1099511627776, min (b + v.s) 1099511627776⟩ := by
      refine Vl.ext' ?_ ?_
      · simp only [vstep]; omega
      · simp only [vstep]; omega
    rw [List.foldl_cons, e, ih]
    simp only [sumC, sumS, List.map_cons, List.sum_cons, Int.add_assoc]
theorem comb_closed {cost : Int} {l : List Vl} (h0 : 0 ≤ cost) (h : ∀ v ∈ l, Ordy v) : comb cost l = if cost + sumC l < 1099511627776 then ⟨cost + sumC l, min (1 + sumS l) 1099511627776⟩ else vtop := by
  have h1 := fold_closed (l := l) (a := cost) (b := 1) h0 (by omega) h
  have e : (⟨min cost 1099511627776, 1⟩ : Vl) = ⟨min cost 1099511627776, min 1 1099511627776⟩ := rfl
  unfold comb vfin
  rw [e, h1]
  by_cases hl : cost + sumC l < 1099511627776
  · rw [if_pos hl, if_neg (by simp only; omega)]
    exact Vl.ext' (by simp only; omega) rfl
  · rw [if_neg hl, if_pos (by simp only; omega)]
/-- A value of costs multiplied. -/
def sc (k : Int) (v : Vl) : Vl := if k * v.c < 1099511627776 then ⟨k * v.c, v.s⟩ else vtop
theorem sc_top {k : Int} (hk : 1 ≤ k) : sc k vtop = vtop := by
  unfold sc
  rw [if_neg]
  show ¬ k * 1099511627776 < 1099511627776
  omega
theorem le_mul {k a : Int} (hk : 1 ≤ k) (ha : 0 ≤ a) : a ≤ k * a := by
  have := Int.mul_le_mul_of_nonneg_right hk ha
  omega
theorem sc_nrm {k : Int} {v : Vl} (hk : 1 ≤ k) (h : Nrm v) : Nrm (sc k v) := by
  obtain ⟨⟨h1, h2, h3, h4⟩, h5⟩ := h
  have h0 := le_mul hk h1
  unfold sc
  split
  · exact ⟨⟨by show 0 ≤ k * v.c; omega, by show k * v.c ≤ _; omega, h3, h4⟩, fun e => by simp at e; omega⟩
  · exact Nrm.top
theorem sc_mono {k : Int} {a b : Vl} (hk : 1 ≤ k) (h : vle a b) : vle (sc k a) (sc k b) := by
  unfold vle at h
  have hlt : a.c < b.c → k * a.c < k * b.c := fun h => Int.mul_lt_mul_of_pos_left h (by omega)
  unfold sc
  by_cases hb : k * b.c < 1099511627776
  · rw [if_pos hb]
    rcases h with h | ⟨h, h'⟩
    · have := hlt h
      rw [if_pos (by omega)]
      exact .inl this
    · rw [h, if_pos hb]
      exact .inr ⟨rfl, h'⟩
  · rw [if_neg hb]
    by_cases ha : k * a.c < 1099511627776
    · rw [if_pos ha]; exact .inl ha
    · rw [if_neg ha]; exact vle.refl _
theorem sums_sc {k : Int} : ∀ {l : List Vl}, (∀ v ∈ l, k * v.c < 1099511627776) → sumC (l.map (sc k)) = k * sumC l ∧ sumS (l.map (sc k)) = sumS l
  | [], _ => by simp [sumC, sumS]
  | v :: l, h => by
    have ih := sums_sc (l := l) (fun u hu => h u (by simp [hu]))
    have hv := h v (by simp)
    have e : sc k v = ⟨k * v.c, v.s⟩ := if_pos hv
    simp only [sumC, sumS, List.map_cons, List.sum_cons, e] at *
    rw [ih.1, ih.2, Int.mul_add]
    exact ⟨rfl, rfl⟩
theorem sumC_mem {l : List Vl} (h : ∀ v ∈ l, Ordy v) {v : Vl} (hv : v ∈ l) : v.c ≤ sumC l := by
  induction l with
  | nil => simp at hv
  | cons u l ih =>
    have hu := h u (by simp)
    have hp := sums_pos (l := l) (fun x hx => h x (by simp [hx]))
    unfold Ordy at hu
    have e : sumC (u :: l) = u.c + sumC l := by simp [sumC]
    rw [e]
    rcases List.mem_cons.1 hv with rfl | hv
    · omega
    · have := ih (fun x hx => h x (by simp [hx])) hv
      omega
theorem comb_sc {k cost : Int} {l : List Vl} (hk : 1 ≤ k) (h0 : 0 ≤ cost) (h : ∀ v ∈ l, Nrm v) : comb (k * cost) (l.map (sc k)) = sc k (comb cost l) := by
  have ho : ∀ v ∈ l, Ordy v := fun v hv => (h v hv).1
  have ho' : ∀ v ∈ l.map (sc k), Ordy v := fun v hv => by
    obtain ⟨u, hu, rfl⟩ := List.mem_map.1 hv
    exact (sc_nrm hk (h u hu)).1
  have hp := sums_pos ho
  have hp' := sums_pos ho'
  have hkc := le_mul hk h0
  rw [comb_closed h0 ho, comb_closed (by omega) ho']
  have hks := le_mul hk (show 0 ≤ cost + sumC l by omega)
  have hd : k * (cost + sumC l) = k * cost + k * sumC l := Int.mul_add _ _ _
  by_cases hlt : k * (cost + sumC l) < 1099511627776
  · have hall : ∀ v ∈ l, k * v.c < 1099511627776 := fun v hv => by
      have h1 := sumC_mem ho hv
      have h2 : k * v.c ≤ k * (cost + sumC l) := Int.mul_le_mul_of_nonneg_left (by omega) (by omega)
      omega
    obtain ⟨e1, e2⟩ := sums_sc hall
    rw [e1, e2, if_pos (by omega), if_pos (by omega)]
    unfold sc
    rw [if_pos hlt, hd]
  · have hge : ¬ k * cost + sumC (l.map (sc k)) < 1099511627776 := by
      by_cases hall : ∀ v ∈ l, k * v.c < 1099511627776
      · rw [(sums_sc hall).1]; omega
      · have hx : ∃ v ∈ l, ¬ k * v.c < 1099511627776 := Classical.byContradiction fun hn => hall fun v hv => Classical.byContradiction fun hc => hn ⟨v, hv, hc⟩
        obtain ⟨v, hv, hc⟩ := hx
        have h1 := sumC_mem ho' (List.mem_map.2 ⟨v, hv, rfl⟩)
        have e : sc k v = vtop := if_neg hc
        rw [e] at h1
        have h2 : vtop.c = 1099511627776 := rfl
        omega
    rw [if_neg hge]
    by_cases hl : cost + sumC l < 1099511627776
    · rw [if_pos hl]
      unfold sc
      rw [if_neg hlt]
    · rw [if_neg hl, sc_top hk]
def scE (k : Int) (e : Ed) : Ed := e.wc (k * e.cost)
theorem ev_sc {k : Int} {V : Nat → Vl} {e : Ed} (hk : 1 ≤ k) (hV : NrmF V) (h0 : 0 ≤ e.cost) : ev (fun i => sc k (V i)) (scE k e) = sc k (ev V e) := by
  have := comb_sc (l := tlv V e.ts) hk h0 (fun v hv => by obtain ⟨t, _, rfl⟩ := List.mem_map.1 hv; exact hV _)
  rw [show ev V e = comb e.cost (tlv V e.ts) from rfl, ← this]
  unfold ev tlv scE Ed.wc
  simp only [List.map_map]
  rfl
theorem att_sc {k : Int} {V : Nat → Vl} {e : Ed} (hk : 1 ≤ k) (hV : NrmF V) (h0 : 0 ≤ e.cost) (hb : ∀ i, (V i).c < 1099511627776 → k * (V i).c < 1099511627776) : att (fun i => sc k (V i)) (scE k e) = att V e := by
  have hiff : att (fun i => sc k (V i)) (scE k e) = true ↔ att V e = true := by
    rw [att_iff, att_iff, ev_sc hk hV h0]
    show (sc k (V e.hd.toNat)).c < _ ∧ sc k (ev V e) = sc k (V e.hd.toNat) ↔ _
    constructor
    · rintro ⟨h1, h2⟩
      have hf : k * (V e.hd.toNat).c < 1099511627776 := by
        by_cases h : k * (V e.hd.toNat).c < 1099511627776
        · exact h
        · rw [show sc k (V e.hd.toNat) = vtop from if_neg h] at h1
          exact absurd h1 (by decide)
      have h3 : (V e.hd.toNat).c < 1099511627776 := by have := le_mul hk (hV e.hd.toNat).1.1; omega
      refine ⟨h3, ?_⟩
      rw [show sc k (V e.hd.toNat) = ⟨k * (V e.hd.toNat).c, (V e.hd.toNat).s⟩ from if_pos hf] at h2
      by_cases hg : k * (ev V e).c < 1099511627776
      · rw [show sc k (ev V e) = ⟨k * (ev V e).c, (ev V e).s⟩ from if_pos hg] at h2
        injection h2 with h4 h5
        exact Vl.ext' (Int.eq_of_mul_eq_mul_left (by omega) h4) h5
      · rw [show sc k (ev V e) = vtop from if_neg hg] at h2
        have h6 : vtop.c = k * (V e.hd.toNat).c := by rw [h2]
        have h7 : vtop.c = 1099511627776 := rfl
        omega
    · rintro ⟨h1, h2⟩
      refine ⟨?_, by rw [h2]⟩
      rw [show sc k (V e.hd.toNat) = ⟨k * (V e.hd.toNat).c, (V e.hd.toNat).s⟩ from if_pos (hb _ h1)]
      exact hb _ h1
  cases h1 : att (fun i => sc k (V i)) (scE k e) <;> cases h2 : att V e <;> simp_all
theorem Sol.scale {es : List Ed} {V : Nat → Vl} {k : Int} {N : Nat} (hk : 1 ≤ k) (h : Sol es V) (hes : ∀ e ∈ es, e.Ok N) (hes' : ∀ e ∈ es.map (scE k), e.Ok N) (hs : ∀ i, (V i).s < 1099511627776) : Sol (es.map (scE k)) (fun i => sc k (V i)) := by
  refine Sol.of_att hes' (fun i => sc_nrm hk (h.nrm i)) (fun e' he' => ?_) (fun i => ?_) (fun i hi => ?_)
  · obtain ⟨e, he, rfl⟩ := List.mem_map.1 he'
    rw [ev_sc hk h.nrm (hes e he).cost.1]
    exact sc_mono hk (h.pre e he)
  · show (sc k (V i)).s < _
    unfold sc
    split
    · exact hs i
    · decide
  · have hf : (V i).c < 1099511627776 := by
      by_cases hn : k * (V i).c < 1099511627776
      · have := le_mul hk (h.nrm i).1.1; omega
      · rw [show sc k (V i) = vtop from if_neg hn] at hi
        exact absurd hi (by decide)
    obtain ⟨e, he, h1, h2⟩ := h.attained hes hf
    rw [att_iff] at h2
    refine ⟨scE k e, List.mem_map.2 ⟨e, he, rfl⟩, h1, att_iff.2 ⟨?_, ?_⟩⟩
    · show (sc k (V e.hd.toNat)).c < _
      rw [h1]; exact hi
    · rw [ev_sc hk h.nrm (hes e he).cost.1, h2.2]
      rfl
theorem chs_scale {es : List Ed} {V : Nat → Vl} {k : Int} {N : Nat} (n : Nat) (hk : 1 ≤ k) (hV : NrmF V) (hes : ∀ e ∈ es, e.Ok N) (hb : ∀ i, (V i).c < 1099511627776 → k * (V i).c < 1099511627776) : chs (fun i => sc k (V i)) (es.map (scE k)) n = chs V es n := by
  unfold chs
  apply List.map_congr_left
  intro i _
  have key : ∀ l : List Ed, (∀ e ∈ l, 0 ≤ e.cost) → (l.map (scE k)).findIdx? (isC (fun i => sc k (V i)) i) = l.findIdx? (isC V i) := by
    intro l hl
    induction l with
    | nil => rfl
    | cons e l ih =>
      have ih := ih (fun e he => hl e (by simp [he]))
      have h1 : isC (fun i => sc k (V i)) i (scE k e) = isC V i e := by
        show (decide (e.hd.toNat = i) && att (fun i => sc k (V i)) (scE k e)) = (decide (e.hd.toNat = i) && att V e)
        rw [att_sc hk hV (hl e (by simp)) hb]
      rw [List.map_cons, List.findIdx?_cons, List.findIdx?_cons, h1, ih]
  unfold cho
  rw [key es (fun e he => (hes e he).cost.1)]
/-- The costs multiplied of the first i hyperedges. -/
def scl (k : Int) (es : List Ed) (i : Nat) : List Ed := (es.take i).map (scE k) ++ es.drop i
theorem scl_zero (k : Int) (es : List Ed) : scl k es 0 = es := by simp [scl]
theorem scl_end (k : Int) (es : List Ed) : scl k es es.length = es.map (scE k) := by simp [scl]
theorem scl_len (k : Int) (es : List Ed) (i : Nat) : (scl k es i).length = es.length := by simp [scl]; omega
theorem scl_at {k : Int} {es : List Ed} {i : Nat} {e : Ed} (h : es[i]? = some e) : (scl k es i)[i]? = some e := by
  have hi := (List.getElem?_eq_some_iff.1 h).1
  unfold scl
  rw [List.getElem?_append_right (by simp; omega)]
  simp only [List.length_map, List.length_take, List.getElem?_drop]
  rw [show min i es.length = i by omega, show i + (i - i) = i by omega]
  exact h
theorem scl_next {k : Int} {es : List Ed} {i : Nat} {e : Ed} (h : es[i]? = some e) : (scl k es i).set i (e.wc (k * e.cost)) = scl k es (i + 1) := by
  obtain ⟨hi, he⟩ := List.getElem?_eq_some_iff.1 h
  unfold scl
  rw [List.set_append_right _ _ (by simp; omega), List.drop_eq_getElem_cons hi, he]
  have e1 : i - ((es.take i).map (scE k)).length = 0 := by simp; omega
  rw [e1, List.set_cons_zero, List.take_add_one, h]
  simp [scE]
end Go.Proofs.Ytkeiakmfnammbaa
