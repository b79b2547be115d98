/- Raising prices and costs lowers no value of a chart: plain. -/
import Derived.Test.YthakcefgbggkcaaDoorChRPl
namespace Go.Proofs.YthakcefgbggkcaaDoor

/-- The next greater value. -/
def vnx (v : Vl) : Vl := if v.s < 1099511627776 ∧ v.c < 1099511627776 then ⟨v.c, v.s + 1⟩ else ⟨v.c + 1, 0⟩
theorem vnx_nrm {v : Vl} (h : Nrm v) (hc : v.c < 1099511627776) : Nrm (vnx v) := by
  obtain ⟨⟨h1, h2, h3, h4⟩, h5⟩ := h
  unfold vnx
  split
  · exact ⟨⟨by simp; omega, by simp; omega, by simp; omega, by simp; omega⟩, fun e => by simp at e; omega⟩
  · exact ⟨⟨by simp; omega, by simp; omega, by simp, by simp⟩, fun _ => rfl⟩
theorem vnx_le {v x : Vl} (hx : Nrm x) (hc : v.c < 1099511627776) (h : vle v x) (hne : x ≠ v) : vle (vnx v) x := by
  have hne' : ¬ (x.c = v.c ∧ x.s = v.s) := fun e => hne (Vl.ext' e.1 e.2)
  obtain ⟨⟨h1, h2, h3, h4⟩, h5⟩ := hx
  unfold vle at h
  unfold vnx vle
  split <;> simp only <;> omega
theorem vnx_ge (v : Vl) : vle v (vnx v) := by
  by_cases h : v.s < 1099511627776 ∧ v.c < 1099511627776
  · have e : vnx v = ⟨v.c, v.s + 1⟩ := if_pos h
    rw [e]
    exact .inr ⟨rfl, by show v.s ≤ v.s + 1; omega⟩
  · have e : vnx v = ⟨v.c + 1, 0⟩ := if_neg h
    rw [e]
    exact .inl (by show v.c < v.c + 1; omega)
theorem vnx_gt (v : Vl) : ¬ vle (vnx v) v := by
  unfold vnx vle
  split <;> simp only <;> omega
section
variable {R R' : List Rl} {L L' : List Ar} {s t N S : Nat} {C : It → Vl} {U : Nat → Vl}
/-- A finite least value is attained. -/
theorem SSol.attained (hC : ∀ x, Nrm (C x)) (hR : ∀ r ∈ R, r.Ok N) (hL : ArsOk S L) (h : SSol R L s t C U) {j : Nat} (hf : (U j).c < 1099511627776) : ∃ x ∈ insH R L s t j, atts C s t U j x = true := by
  apply Classical.byContradiction
  intro hno
  have hge : ∀ x, vle (U x) (if x = j then vnx (U j) else U x) := fun x => by
    split
    · rename_i e
      subst e
      exact vnx_ge _
    · exact vle.refl _
  have hU : ∀ x, Nrm ((fun x => if x = j then vnx (U j) else U x) x) := fun x => by
    simp only
    split
    · exact vnx_nrm (h.nrm j) hf
    · exact h.nrm x
  have hP : PreS R L s t C (fun x => if x = j then vnx (U j) else U x) := fun r hr i hi => by
    have hp := insts_pr (hR r hr) hL hi
    have hm : vle (iv (spv C s t U) i) (iv (spv C s t (fun x => if x = j then vnx (U j) else U x)) i) := iv_mono (spv_nrm hC h.nrm) (spv_nrm hC hU) hp.1 fun x _ => spv_mono hge x
    refine vle.trans ?_ hm
    simp only
    split
    · rename_i e1
      have h0 := h.pre r hr i hi
      rw [e1] at h0
      refine vnx_le (iv_nrm (spv_nrm hC h.nrm) hp.1) hf h0 fun e2 => hno ?_
      obtain ⟨k, hk⟩ := List.getElem?_of_mem hr
      exact ⟨(k, i), mem_insH.2 ⟨r, hk, e1, hi⟩, atts_iff.2 e2⟩
    · exact h.pre r hr i hi
  have := h.top _ hU hP j
  simp only at this
  rw [if_pos trivial] at this
  exact vnx_gt _ this
theorem cel_val (hC : ∀ x, Nrm (C x)) (hR : ∀ r ∈ R, r.Ok N) (hL : ArsOk S L) (h : SSol R L s t C U) (j : Nat) : (cel R L s t C U j).v = U j := by
  unfold cel
  by_cases hf : (U j).c < 1099511627776
  · rw [if_pos hf]
    obtain ⟨x, hx, ha⟩ := h.attained hC hR hL hf
    cases hfd : (insH R L s t j).find? (atts C s t U j) with
    | none => exact absurd ha (List.find?_eq_none.1 hfd x hx)
    | some y => rfl
  · rw [if_neg hf, (h.nrm j).eq_top (by omega)]
    rfl
/-- Rules and arcs alike, but for prices and costs that are nowhere lower. -/
structure Dear (R R' : List Rl) (L L' : List Ar) : Prop where
  rl : ∀ r' ∈ R', ∃ r ∈ R, r.k = r'.k ∧ r.hd = r'.hd ∧ r.a = r'.a ∧ r.b = r'.b ∧ r.p ≤ r'.p
  len : L'.length = L.length
  ar : ∀ (k : Nat) (a' : Ar), L'[k]? = some a' → ∃ a, L[k]? = some a ∧ a.fr = a'.fr ∧ a.tt = a'.tt ∧ a.tm = a'.tm ∧ a.co ≤ a'.co
theorem Dear.ins (h : Dear R R' L L') {r r' : Rl} (hk : r.k = r'.k) (ha : r.a = r'.a) (hb : r.b = r'.b) (hp : r.p ≤ r'.p) {i' : Ins} (hi : i' ∈ insts L' s t r') : ∃ i ∈ insts L s t r, i.us = i'.us ∧ i.pr ≤ i'.pr := by
  unfold insts at hi ⊢
  rw [← hk] at hi
  split at hi
  · rename_i h1
    rw [if_pos h1]
    split at hi
    · rename_i h2
      rw [if_pos h2]
      simp at hi
      subst hi
      exact ⟨_, List.mem_singleton.2 rfl, rfl, hp⟩
    · simp at hi
  · rename_i h1
    rw [if_neg h1]
    split at hi
    · rename_i h2
      rw [if_pos h2]
      obtain ⟨k, a', ha', e1, e2, e3, rfl⟩ := mem_arcs.1 hi
      obtain ⟨a, hka, f1, f2, f3, f4⟩ := h.ar k a' ha'
      exact ⟨⟨k, r.p + a.co, []⟩, mem_arcs.2 ⟨k, a, hka, f1.trans e1, f2.trans e2, by rw [f3, e3, ha], rfl⟩, rfl, by simp only; omega⟩
    · rename_i h2
      rw [if_neg h2]
      split at hi
      · rename_i h3
        rw [if_pos h3]
        simp at hi
        subst hi
        exact ⟨_, List.mem_singleton.2 rfl, by rw [ha], hp⟩
      · rename_i h3
        rw [if_neg h3]
        obtain ⟨m, hm1, hm2, rfl⟩ := mem_splits.1 hi
        exact ⟨⟨m, r.p, [⟨r.a, s, m⟩, ⟨r.b, m, t⟩]⟩, mem_splits.2 ⟨m, hm1, hm2, rfl⟩, by rw [ha, hb], hp⟩
theorem Dear.chart (h : Dear R R' L L') (hR : ∀ r ∈ R, r.Ok N) (hR' : ∀ r ∈ R', r.Ok N) (hL : ArsOk S L) (hL' : ArsOk S L') {cs cs' : List Cl} (hc : Chart R L N S cs) (hc' : Chart R' L' N S cs') :
    ∀ d s t, t - s < d → s ≤ t → t < S → ∀ j < N, ∃ c c', cs[cix S s t * N + j]? = some c ∧ cs'[cix S s t * N + j]? = some c' ∧ vle c.v c'.v := by
  intro d
  induction d with
  | zero => intro s t h; omega
  | succ d ih =>
    intro s t hd hst htS
    obtain ⟨U, h1, h2⟩ := hc.span hst htS
    obtain ⟨U', h1', h2'⟩ := hc'.span hst htS
    have hC : ∀ x, Nrm (CC N S cs x) := atC_nrm (Grid.nrm hc)
    have hC' : ∀ x, Nrm (CC N S cs' x) := atC_nrm (Grid.nrm hc')
    have hP : PreS R' L' s t (CC N S cs') U := fun r' hr' i' hi' => by
      obtain ⟨r, hr, e1, e2, e3, e4, e5⟩ := h.rl r' hr'
      obtain ⟨i, hi, f1, f2⟩ := h.ins (s := s) (t := t) e1 e3 e4 e5 hi'
      rw [← e2]
      refine (h1.pre r hr i hi).trans ?_
      refine iv_mono2 (spv_nrm hC h1.nrm) (spv_nrm hC' h1.nrm) (insts_pr (hR r hr) hL hi).1 f2 f1 fun x hx => ?_
      obtain ⟨g1, g2, g3, g4⟩ := insts_in (hR r hr) hst hi hx
      unfold spv
      cases ho : x.own s t with
      | true => exact vle.refl _
      | false =>
        have hne : ¬ (x.f = s ∧ x.t = t) := fun e => by rw [own_iff.2 e] at ho; cases ho
        obtain ⟨c, c', k1, k2, k3⟩ := ih x.f.toNat x.t.toNat (by omega) (by omega) (by omega) x.h.toNat (by omega)
        show vle (CC N S cs x) (CC N S cs' x)
        unfold CC atC
        rw [if_pos ⟨g1, by omega, g3, by omega⟩, if_pos ⟨g1, by omega, g3, by omega⟩, k1, k2]
        exact k3
    intro j hj
    refine ⟨_, _, h2 j hj, h2' j hj, ?_⟩
    rw [cel_val hC hR hL h1, cel_val hC' hR' hL' h1']
    exact h1'.top U h1.nrm hP j
theorem Dear.cells (h : Dear R R' L L') (hR : ∀ r ∈ R, r.Ok N) (hR' : ∀ r ∈ R', r.Ok N) (hL : ArsOk S L) (hL' : ArsOk S L') {cs cs' : List Cl} (hc : Chart R L N S cs) (hc' : Chart R' L' N S cs') (hN : 0 < N) {i : Nat} (hi : i < tri S S * N) :
    ∃ c c', cs[i]? = some c ∧ cs'[i]? = some c' ∧ c.v.c ≤ c'.v.c := by
  have hci : i / N < tri S S := Nat.div_lt_of_lt_mul (by rw [Nat.mul_comm]; exact hi)
  obtain ⟨s, t, hst, hS, e⟩ := cix_at S (Nat.le_refl S) hci
  obtain ⟨c, c', h1, h2, h3⟩ := h.chart hR hR' hL hL' hc hc' (t - s + 1) s t (by omega) hst hS (i % N) (Nat.mod_lt _ hN)
  rw [e, Nat.mul_comm, Nat.div_add_mod] at h1 h2
  exact ⟨c, c', h1, h2, by unfold vle at h3; omega⟩
/-- A rule's price raised, an arc's cost raised. -/
theorem Dear.of {i : Nat} {r : Rl} {p' : Int} (hr : R[i]? = some r) (hp : r.p ≤ p') (hl : L'.length = L.length) (ha : ∀ (k : Nat) (a' : Ar), L'[k]? = some a' → ∃ a, L[k]? = some a ∧ a.fr = a'.fr ∧ a.tt = a'.tt ∧ a.tm = a'.tm ∧ a.co ≤ a'.co) : Dear R (R.set i { r with p := p' }) L L' := by
  refine ⟨fun r' hr' => ?_, hl, ha⟩
  rcases List.mem_or_eq_of_mem_set hr' with h | rfl
  · exact ⟨r', h, rfl, rfl, rfl, rfl, Int.le_refl _⟩
  · exact ⟨r, List.mem_of_getElem? hr, rfl, rfl, rfl, rfl, hp⟩
theorem ars_dear {j : Nat} {a : Ar} {c' : Int} (ha : L[j]? = some a) (hc : a.co ≤ c') : ∀ (k : Nat) (a' : Ar), (L.set j { a with co := c' })[k]? = some a' → ∃ a, L[k]? = some a ∧ a.fr = a'.fr ∧ a.tt = a'.tt ∧ a.tm = a'.tm ∧ a.co ≤ a'.co := fun k a' h => by
  rw [List.getElem?_set] at h
  by_cases e : j = k
  · subst e
    rw [if_pos rfl, if_pos (List.getElem?_eq_some_iff.1 ha).1] at h
    injection h with h
    subst h
    exact ⟨a, ha, rfl, rfl, rfl, hc⟩
  · rw [if_neg e] at h
    exact ⟨a', h, rfl, rfl, rfl, Int.le_refl _⟩
theorem ars_same : ∀ (k : Nat) (a' : Ar), L[k]? = some a' → ∃ a, L[k]? = some a ∧ a.fr = a'.fr ∧ a.tt = a'.tt ∧ a.tm = a'.tm ∧ a.co ≤ a'.co := fun _ a' h => ⟨a', h, rfl, rfl, rfl, Int.le_refl _⟩
theorem rls_ok {i : Nat} {r : Rl} {p' : Int} (hR : ∀ r ∈ R, r.Ok N) (hr : R[i]? = some r) (hp : 0 ≤ p' ∧ p' ≤ 1000) : ∀ r' ∈ R.set i { r with p := p' }, r'.Ok N := fun r' h => by
  rcases List.mem_or_eq_of_mem_set h with h | rfl
  · exact hR r' h
  · have := hR r (List.mem_of_getElem? hr)
    exact ⟨this.hd, hp, this.k⟩
theorem ars_ok {j : Nat} {a : Ar} {c' : Int} (hL : ArsOk S L) (ha : L[j]? = some a) (hc : 0 ≤ c' ∧ c' < 1099511627776) : ArsOk S (L.set j { a with co := c' }) := by
  have key : ∀ (k : Nat) (a' : Ar), (L.set j { a with co := c' })[k]? = some a' → ∃ b, L[k]? = some b ∧ b.fr = a'.fr ∧ b.tt = a'.tt ∧ b.tm = a'.tm ∧ 0 ≤ a'.co ∧ a'.co < 1099511627776 := fun k a' h => by
    rw [List.getElem?_set] at h
    by_cases e : j = k
    · subst e
      rw [if_pos rfl, if_pos (List.getElem?_eq_some_iff.1 ha).1] at h
      injection h with h
      subst h
      exact ⟨a, ha, rfl, rfl, rfl, hc⟩
    · rw [if_neg e] at h
      have := hL.ok a' (List.mem_of_getElem? h)
      exact ⟨a', h, rfl, rfl, rfl, this.2.2.2⟩
  refine ⟨fun a' h => ?_, fun k x y hx hy => ?_⟩
  · obtain ⟨k, hk⟩ := List.getElem?_of_mem h
    obtain ⟨b, hb, e1, e2, e3, e4⟩ := key k a' hk
    have := hL.ok b (List.mem_of_getElem? hb)
    omega
  · obtain ⟨b, hb, e1, e2, e3, _⟩ := key k x hx
    obtain ⟨b', hb', f1, f2, f3, _⟩ := key (k + 1) y hy
    have := hL.so k b b' hb hb'
    unfold Ar.bf at *
    rw [← e1, ← e2, ← e3, ← f1, ← f2, ← f3]
    exact this
end
end Go.Proofs.YthakcefgbggkcaaDoor
