/- Solutions of a hypergraph; what Knuth's algorithm keeps. -/
import Derived.Test.YtkeiakmfnammbaaKnSettle
namespace Go.Proofs.Ytkeiakmfnammbaa
open Go.RowKit

def NrmF (U : Nat → Vl) : Prop := ∀ i, Nrm (U i)
def PreFix (es : List Ed) (U : Nat → Vl) : Prop := ∀ e ∈ es, vle (U e.hd.toNat) (ev U e)
/-- The least values: the greatest ones that no hyperedge undercuts. -/
structure Sol (es : List Ed) (V : Nat → Vl) : Prop where
  nrm : NrmF V
  pre : PreFix es V
  top : ∀ U, NrmF U → PreFix es U → ∀ i, vle (U i) (V i)
theorem Sol.uniq {es : List Ed} {V V' : Nat → Vl} (h : Sol es V) (h' : Sol es V') : V = V' := funext fun i => (h'.top V h.nrm h.pre i).antisymm (h.top V' h'.nrm h'.pre i)
theorem tlv_ord {V : Nat → Vl} (h : NrmF V) (ts : List Int) : ∀ v ∈ tlv V ts, Ordy v := fun v hv => by
  obtain ⟨t, _, rfl⟩ := List.mem_map.1 hv
  exact (h _).1
theorem ev_mono {U V : Nat → Vl} {e : Ed} (hU : NrmF U) (hV : NrmF V) (h0 : 0 ≤ e.cost) (h : ∀ t ∈ e.ts, vle (U t.toNat) (V t.toNat)) : vle (ev U e) (ev V e) :=
  comb_mono h0 (LeL.map h) (tlv_ord hU _) (tlv_ord hV _)
theorem ev_nrm {V : Nat → Vl} {e : Ed} (hV : NrmF V) (h0 : 0 ≤ e.cost) : Nrm (ev V e) := comb_nrm h0 (tlv_ord hV _)
theorem ev_sup {V : Nat → Vl} {e : Ed} (hV : NrmF V) (h0 : 0 ≤ e.cost) {t : Int} (ht : t ∈ e.ts) : vle (V t.toNat) (ev V e) :=
  comb_sup h0 (tlv_ord hV _) (List.mem_map.2 ⟨t, ht, rfl⟩) (hV _)
theorem ev_fin {V : Nat → Vl} {e : Ed} (hV : NrmF V) (h0 : 0 ≤ e.cost) (h : (ev V e).c < 1099511627776) {t : Int} (ht : t ∈ e.ts) : (V t.toNat).c < 1099511627776 :=
  comb_finite h0 (tlv_ord hV _) (List.mem_map.2 ⟨t, ht, rfl⟩) h
theorem ev_congr {U V : Nat → Vl} {e : Ed} (h : ∀ t ∈ e.ts, U t.toNat = V t.toNat) : ev U e = ev V e := by
  unfold ev tlv
  congr 1
  exact List.map_congr_left h
theorem Nrm.eq_top {v : Vl} (h : Nrm v) (hc : 1099511627776 ≤ v.c) : v = vtop := by
  have h1 := h.1.2.1
  have hce : v.c = 1099511627776 := by omega
  exact Vl.ext' hce (h.2 hce)

def Ent.v (x : Ent) : Vl := ⟨x.cost, x.size⟩
theorem bf_vle {x y : Ent} (h : bf x y = true) : vle x.v y.v := by
  rw [bf_iff] at h
  unfold vle Ent.v
  simp only
  omega
def uns (S : List Bool) (t : Int) : Bool := !(S[t.toNat]?.getD false)
def cntU (S : List Bool) (e : Ed) : Nat := e.ts.countP (uns S)
def Cov (V : List Vl) (S : List Bool) (L : List Ent) (e : Ed) : Prop :=
  1099511627776 ≤ (ev (gv V) e).c ∨ (S[e.hd.toNat]? = some true ∧ vle (gv V e.hd.toNat) (ev (gv V) e)) ∨ ∃ x ∈ L, x.node = e.hd ∧ x.v = ev (gv V) e
structure Inv (N : Nat) (es : List Ed) (j : Nat) (rest : List Nat) (V : List Vl) (S : List Bool) (O : List Int) (L : List Ent) (M : Vl) : Prop where
  nV : NrmF (gv V)
  set_ : ∀ i, S[i]? = some true → (gv V i).c < 1099511627776 ∧ vle (gv V i) M
  unset : ∀ i, S[i]? ≠ some true → gv V i = vtop
  que : ∀ x ∈ L, 0 ≤ x.node ∧ x.node < N ∧ vle M x.v ∧ x.cost < 1099511627776 ∧ Nrm x.v
  low : ∀ U, NrmF U → PreFix es U → (∀ i, vle (U i) (gv V i)) ∧ ∀ x ∈ L, vle (U x.node.toNat) x.v
  cnt : ∀ k e, es[k]? = some e → O[k]? = some ((cntU S e + rest.count k : Nat) : Int)
  cov : ∀ k e, es[k]? = some e → (e.ts = [] → k < j) → O[k]? = some 0 → Cov V S L e
/-- How many hyperedges have open tails. -/
def opn (O : List Int) : Nat := O.countP fun o => decide (0 < o)

section
variable {N j : Nat} {es : List Ed} {rest : List Nat} {V : List Vl} {S : List Bool} {O : List Int} {L : List Ent} {M : Vl} {nx : Nat}
theorem Cov.more {L' : List Ent} {e : Ed} (h : Cov V S L e) (hL : ∀ x ∈ L, x ∈ L') : Cov V S L' e := by
  rcases h with h | h | ⟨x, h1, h2⟩
  · exact .inl h
  · exact .inr (.inl h)
  · exact .inr (.inr ⟨x, hL x h1, h2⟩)
theorem mem_offL {e : Ed} {x : Ent} (h : x ∈ offL V S e L nx) : x ∈ L ∨ (offc V S e = true ∧ x = ⟨e.hd, (ev (gv V) e).c, (ev (gv V) e).s, nx, nx⟩) := by
  unfold offL at h
  split at h
  · rename_i hc
    rcases List.mem_append.1 h with h | h
    · exact .inl h
    · exact .inr ⟨hc, by simpa using h⟩
  · exact .inl h
theorem offL_sub {e : Ed} {x : Ent} (h : x ∈ L) : x ∈ offL V S e L nx := by
  unfold offL
  split
  · exact List.mem_append_left _ h
  · exact h
/-- Behind an offer the hyperedge is covered; the rest is kept. -/
theorem Inv.offer (h : Inv N es j rest V S O L M) {k : Nat} {e : Ed} (he : es[k]? = some e) (hok : e.Ok N) (hS : S.length = N) (hM : vle M (ev (gv V) e)) :
    (∀ x ∈ offL V S e L nx, 0 ≤ x.node ∧ x.node < N ∧ vle M x.v ∧ x.cost < 1099511627776 ∧ Nrm x.v) ∧ (∀ U, NrmF U → PreFix es U → (∀ i, vle (U i) (gv V i)) ∧ ∀ x ∈ offL V S e L nx, vle (U x.node.toNat) x.v) ∧ Cov V S (offL V S e L nx) e := by
  have hmem := List.mem_of_getElem? he
  refine ⟨fun x hx => ?_, fun U hU hP => ⟨(h.low U hU hP).1, fun x hx => ?_⟩, ?_⟩
  · rcases mem_offL hx with h1 | ⟨h1, rfl⟩
    · exact h.que x h1
    · simp only [offc, Bool.and_eq_true, decide_eq_true_eq] at h1
      exact ⟨hok.hd.1, hok.hd.2, hM, h1.1, ev_nrm h.nV hok.cost.1⟩
  · rcases mem_offL hx with h1 | ⟨h1, rfl⟩
    · exact (h.low U hU hP).2 x h1
    · exact (hP e hmem).trans (ev_mono hU h.nV hok.cost.1 fun t _ => (h.low U hU hP).1 _)
  · by_cases hc : offc V S e = true
    · refine .inr (.inr ⟨⟨e.hd, (ev (gv V) e).c, (ev (gv V) e).s, nx, nx⟩, ?_, rfl, rfl⟩)
      unfold offL
      rw [if_pos hc]
      simp
    · by_cases hc1 : (ev (gv V) e).c < 1099511627776
      case neg => exact .inl (by omega)
      case pos =>
        have hc : ¬ (!(S[e.hd.toNat]?.getD true)) = true := fun h1 => hc (by simp only [offc, h1, hc1, decide_true]; rfl)
        have hlt : e.hd.toNat < S.length := by have := hok.hd; omega
        have hst : S[e.hd.toNat]? = some true := by
          rw [List.getElem?_eq_getElem hlt] at hc ⊢
          simpa using hc
        exact .inr (.inl ⟨hst, (h.set_ _ hst).2.trans hM⟩)
theorem Inv.decr {k : Nat} (h : Inv N es j (k :: rest) V S O L M) (hes : ∀ e ∈ es, e.Ok N) (hS : S.length = N) (hk : k < es.length) (hM : ∀ e, es[k]? = some e → vle M (ev (gv V) e)) :
    Inv N es j rest V S (dec es V S (O, L, nx) k).1 (dec es V S (O, L, nx) k).2.1 M := by
  have he := List.getElem?_eq_getElem hk
  obtain ⟨e, hee⟩ : ∃ e, es[k] = e := ⟨_, rfl⟩
  rw [hee] at he
  have hO := h.cnt k e he
  have hkO : k < O.length := (List.getElem?_eq_some_iff.1 hO).1
  have hval : ((cntU S e + (k :: rest).count k : Nat) : Int) - 1 = ((cntU S e + rest.count k : Nat) : Int) := by rw [List.count_cons_self]; omega
  obtain ⟨q1, q2, q3⟩ := h.offer (nx := nx) he (hes e (List.mem_of_getElem? he)) hS (hM e he)
  have hcnt : ∀ k' e', es[k']? = some e' → (O.set k ((cntU S e + rest.count k : Nat) : Int))[k']? = some ((cntU S e' + rest.count k' : Nat) : Int) := fun k' e' he' => by
    rw [List.getElem?_set]
    by_cases hkk : k = k'
    · subst hkk
      rw [he] at he'
      injection he' with he'
      subst he'
      rw [if_pos rfl, if_pos hkO]
    · rw [if_neg hkk, h.cnt k' e' he']
      rw [List.count_cons_of_ne hkk]
  unfold Go.Proofs.Ytkeiakmfnammbaa.dec
  simp only [he, hO, Option.getD_some, hval]
  split
  · rename_i hz
    refine ⟨h.nV, h.set_, h.unset, q1, q2, hcnt, fun k' e' he' hj' h0 => ?_⟩
    by_cases hkk : k = k'
    · subst hkk
      rw [he] at he'
      injection he' with he'
      subst he'
      exact q3
    · refine (h.cov k' e' he' hj' ?_).more (fun x hx => offL_sub hx)
      rw [← h0, List.getElem?_set, if_neg hkk]
  · rename_i hz
    refine ⟨h.nV, h.set_, h.unset, h.que, h.low, hcnt, fun k' e' he' hj' h0 => ?_⟩
    by_cases hkk : k = k'
    · subst hkk
      rw [he] at he'
      injection he' with he'
      subst he'
      rw [hcnt k e he] at h0
      injection h0 with h0
      exact absurd h0 hz
    · refine h.cov k' e' he' hj' ?_
      rw [← h0, List.getElem?_set, if_neg hkk]
end
end Go.Proofs.Ytkeiakmfnammbaa
