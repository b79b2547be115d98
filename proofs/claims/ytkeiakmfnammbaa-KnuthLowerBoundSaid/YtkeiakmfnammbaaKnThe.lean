/- What follows of a solution. -/
import Derived.Test.YtkeiakmfnammbaaKnCho
namespace Go.Proofs.Ytkeiakmfnammbaa
open Go.RowKit

theorem OkN {N : Nat} {es : List Ed} (h : ∀ e ∈ es, e.Ok N) {e : Ed} (he : e ∈ es) : 0 ≤ e.cost := (h e he).cost.1
/-- The next greater value. -/
def vsucc (v : Vl) : Vl := if v.s < 1099511627776 ∧ v.c < 1099511627776 then ⟨v.c, v.s + 1⟩ else ⟨v.c + 1, 0⟩
theorem vsucc_nrm {v : Vl} (h : Nrm v) (hc : v.c < 1099511627776) : Nrm (vsucc v) := by
  obtain ⟨⟨h1, h2, h3, h4⟩, h5⟩ := h
  unfold vsucc
  split
  · exact ⟨⟨by simp; omega, by simp; omega, by simp; omega, by simp; omega⟩, fun e => by simp at e; omega⟩
  · exact ⟨⟨by simp; omega, by simp; omega, by simp, by simp⟩, fun _ => rfl⟩
theorem vsucc_le {v x : Vl} (hx : Nrm x) (hc : v.c < 1099511627776) (h : vle v x) (hne : x ≠ v) : vle (vsucc v) x := by
  have hne' : ¬ (x.c = v.c ∧ x.s = v.s) := fun e => hne (Vl.ext' e.1 e.2)
  obtain ⟨⟨h1, h2, h3, h4⟩, h5⟩ := hx
  unfold vle at h
  unfold vsucc vle
  split <;> simp only <;> omega
theorem vsucc_ge (v : Vl) : vle v (vsucc v) := by
  by_cases h : v.s < 1099511627776 ∧ v.c < 1099511627776
  · have e : vsucc v = ⟨v.c, v.s + 1⟩ := if_pos h
    rw [e]
    exact .inr ⟨rfl, by show v.s ≤ v.s + 1; omega⟩
  · have e : vsucc v = ⟨v.c + 1, 0⟩ := if_neg h
    rw [e]
    exact .inl (by show v.c < v.c + 1; omega)
theorem vsucc_gt (v : Vl) : ¬ vle (vsucc v) v := by
  unfold vsucc vle
  split <;> simp only <;> omega
/-- A finite value is attained. -/
theorem Sol.attained {es : List Ed} {V : Nat → Vl} {N : Nat} (h : Sol es V) (hes : ∀ e ∈ es, e.Ok N) {i : Nat} (hc : (V i).c < 1099511627776) : ∃ e ∈ es, e.hd.toNat = i ∧ att V e = true := by
  apply Classical.byContradiction
  intro hno
  have hgt : ∀ e ∈ es, e.hd.toNat = i → ev V e ≠ V i := fun e he h1 h2 => hno ⟨e, he, h1, att_iff.2 ⟨by rw [h1]; exact hc, by rw [h1]; exact h2⟩⟩
  have hge : ∀ j, vle (V j) (if j = i then vsucc (V i) else V j) := fun j => by
    split
    · rename_i e
      subst e
      exact vsucc_ge _
    · exact vle.refl _
  have hU : NrmF (fun j => if j = i then vsucc (V i) else V j) := fun j => by
    simp only
    split
    · exact vsucc_nrm (h.nrm i) hc
    · exact h.nrm j
  have hP : PreFix es (fun j => if j = i then vsucc (V i) else V j) := fun e he => by
    have hm : vle (ev V e) (ev (fun j => if j = i then vsucc (V i) else V j) e) := ev_mono h.nrm hU (hes e he).cost.1 fun t _ => hge _
    refine vle.trans ?_ hm
    simp only
    split
    · rename_i e1
      have h0 := h.pre e he
      rw [e1] at h0
      exact vsucc_le (ev_nrm h.nrm (hes e he).cost.1) hc h0 (hgt e he e1)
    · exact h.pre e he
  have := h.top _ hU hP i
  simp only at this
  rw [if_pos trivial] at this
  exact vsucc_gt _ this
/-- A number for the order of values. -/
def vrk (v : Vl) : Nat := (v.c * 2199023255552 + v.s).toNat
theorem vrk_lt {a b : Vl} (ha : Ordy a) (hb : Ordy b) (h : a.c < b.c ∨ (a.c = b.c ∧ a.s < b.s)) : vrk a < vrk b := by
  unfold Ordy at *
  unfold vrk
  omega
/-- Values that no hyperedge undercuts and that are attained, where finite, are the least ones. -/
theorem Sol.of_att {es : List Ed} {V : Nat → Vl} {N : Nat} (hes : ∀ e ∈ es, e.Ok N) (hn : NrmF V) (hp : PreFix es V) (hs : ∀ i, (V i).s < 1099511627776) (ha : ∀ i, (V i).c < 1099511627776 → ∃ e ∈ es, e.hd.toNat = i ∧ att V e = true) : Sol es V := by
  refine ⟨hn, hp, fun U hU hP => ?_⟩
  have key : ∀ (r : Nat) (i : Nat), vrk (V i) < r → vle (U i) (V i) := by
    intro r
    induction r with
    | zero => intro i h; omega
    | succ r ih =>
      intro i hi
      by_cases hc : (V i).c < 1099511627776
      · obtain ⟨e, he, h1, h2⟩ := ha i hc
        rw [att_iff, h1] at h2
        have h3 := hP e he
        rw [h1] at h3
        refine h3.trans ?_
        rw [← h2.2]
        refine ev_mono hU hn (hes e he).cost.1 fun t ht => ih _ ?_
        have h4 := comb_sup' (cost := e.cost) (l := tlv V e.ts) (v := V t.toNat) (hes e he).cost.1 (tlv_ord hn _) (List.mem_map.2 ⟨t, ht, rfl⟩) (by show (ev V e).c < _; rw [h2.2]; exact h2.1) (by show (ev V e).s < _; rw [h2.2]; exact hs i)
        have h5 : vrk (V t.toNat) < vrk (ev V e) := vrk_lt (hn _).1 (ev_nrm hn (hes e he).cost.1).1 h4
        rw [h2.2] at h5
        omega
      · rw [(hn i).eq_top (by omega)]
        exact (hU i).le_top
  exact fun i => key _ i (Nat.lt_succ_self _)
/-- Removing hyperedges lowers no value. -/
theorem Sol.sub {es es' : List Ed} {V V' : Nat → Vl} (h : Sol es V) (h' : Sol es' V') (hs : ∀ e ∈ es', e ∈ es) (i : Nat) : vle (V i) (V' i) :=
  h'.top V h.nrm (fun e he => h.pre e (hs e he)) i
/-- Raising costs lowers no value. -/
theorem Sol.raise {es es' : List Ed} {V V' : Nat → Vl} (h : Sol es V) (h' : Sol es' V') (hs : ∀ e' ∈ es', ∃ e ∈ es, e.hd = e'.hd ∧ e.ts = e'.ts ∧ 0 ≤ e.cost ∧ e.cost ≤ e'.cost) (i : Nat) : vle (V i) (V' i) :=
  h'.top V h.nrm (fun e' he' => by
    obtain ⟨e, he, h1, h2, h3, h4⟩ := hs e' he'
    rw [← h1]
    refine (h.pre e he).trans ?_
    unfold ev
    rw [← h2]
    exact comb_mono_cost h3 h4 (tlv_ord h.nrm _)) i
/-- The chosen hyperedges alone have the same values. -/
theorem Sol.chosen {es es' : List Ed} {V : Nat → Vl} {N : Nat} (h : Sol es V) (hes : ∀ e ∈ es, e.Ok N) (hs : ∀ i, (V i).s < 1099511627776) (hsub : ∀ e ∈ es', e ∈ es) (hall : ∀ i k, cho V es i = (k : Nat) → ∃ e, es[k]? = some e ∧ e ∈ es') : Sol es' V := by
  refine Sol.of_att (fun e he => hes e (hsub e he)) h.nrm (fun e he => h.pre e (hsub e he)) hs fun i hc => ?_
  obtain ⟨e, he, h1, h2⟩ := h.attained hes hc
  obtain ⟨k0, hk0⟩ := List.getElem?_of_mem he
  obtain ⟨k, e', hk, he', h3, h4, _⟩ := cho_pos (cho_le hk0 h1 h2).1
  obtain ⟨e2, he2, hm⟩ := hall i k hk
  rw [he'] at he2
  injection he2 with he2
  subst he2
  exact ⟨e', hm, h3, h4⟩
/-- Nodes that are not derivable have no finite value. -/
theorem Sol.outside {es : List Ed} {V : Nat → Vl} {N : Nat} (h : Sol es V) (hes : ∀ e ∈ es, e.Ok N) (D : Nat → Prop) (hD : ∀ e ∈ es, (∀ t ∈ e.ts, D t.toNat) → D e.hd.toNat) {i : Nat} (hi : ¬ D i) : V i = vtop := by
  classical
  have hge : ∀ j, vle (V j) (if D j then V j else vtop) := fun j => by
    split
    · exact vle.refl _
    · exact (h.nrm j).le_top
  have hU : NrmF (fun j => if D j then V j else vtop) := fun j => by
    simp only
    split
    · exact h.nrm j
    · exact Nrm.top
  have hP : PreFix es (fun j => if D j then V j else vtop) := fun e he => by
    have hm : vle (ev V e) (ev (fun j => if D j then V j else vtop) e) := ev_mono h.nrm hU (hes e he).cost.1 fun t _ => hge _
    by_cases hd : D e.hd.toNat
    · simp only [if_pos hd]
      exact (h.pre e he).trans hm
    · simp only [if_neg hd]
      have hx : ∃ t ∈ e.ts, ¬ D t.toNat := by
        apply Classical.byContradiction
        intro hno
        exact hd (hD e he fun t ht => Classical.byContradiction fun hn => hno ⟨t, ht, hn⟩)
      obtain ⟨t, ht, hn⟩ := hx
      have h1 : ¬ (ev (fun j => if D j then V j else vtop) e).c < 1099511627776 := fun hlt => by
        have := ev_fin hU (hes e he).cost.1 hlt ht
        simp only [if_neg hn] at this
        exact absurd this (by decide)
      rw [(ev_nrm (e := e) hU (hes e he).cost.1).eq_top (by omega)]
      exact vle.refl _
  have := h.top _ hU hP i
  simp only [if_neg hi] at this
  exact ((h.nrm i).le_top).antisymm this
/-- Beyond the nodes nothing is finite. -/
theorem Sol.beyond {es : List Ed} {V : Nat → Vl} {N : Nat} (h : Sol es V) (hes : ∀ e ∈ es, e.Ok N) {i : Nat} (hi : N ≤ i) : V i = vtop :=
  h.outside hes (fun j => j < N) (fun e he _ => by have := (hes e he).hd; omega) (by omega)
end Go.Proofs.Ytkeiakmfnammbaa
