/- The chart's cells solve the items' hypergraph; their labels are those of the first hyperedges that attain them. Plain. -/
import Derived.Test.YthakcefgbggkcaaDoorChKHyp
import Derived.Test.YthakcefgbggkcaaDoorChMono
import Derived.Test.YthakcefgbggkcaaDoorChRGoal
namespace Go.Proofs.YthakcefgbggkcaaDoor
open Go.RowKit

theorem comb_min (p : Int) (l : List Vl) : comb (min p 1099511627776) l = comb p l := by
  unfold comb
  rw [show min (min p 1099511627776) 1099511627776 = min p 1099511627776 by omega]
/-- What a hyperedge yields, wherever its tails lie. -/
def evP (V : Nat → Vl) (p : Pe) : Vl := comb p.co (tlv V p.ts)
def attP (V : Nat → Vl) (p : Pe) : Bool := decide ((V p.hd.toNat).c < 1099511627776) && (decide ((evP V p).c = (V p.hd.toNat).c) && decide ((evP V p).s = (V p.hd.toNat).s))
def isCp (V : Nat → Vl) (i : Nat) (p : Pe) : Bool := decide (p.hd.toNat = i) && attP V p
theorem attP_iff {V : Nat → Vl} {p : Pe} : attP V p = true ↔ (V p.hd.toNat).c < 1099511627776 ∧ evP V p = V p.hd.toNat := by
  simp only [attP, Bool.and_eq_true, decide_eq_true_eq]
  constructor
  · rintro ⟨h1, h2, h3⟩; exact ⟨h1, Vl.ext' h2 h3⟩
  · rintro ⟨h1, h2⟩; exact ⟨h1, by rw [h2], by rw [h2]⟩
theorem cho_find {V : Nat → Vl} {es : List Ed} {P : List Pe} (hP : es.map Ed.pe = P) (i : Nat) : (cho V es i < 0 ∧ P.find? (isCp V i) = none) ∨ ∃ (k : Nat) (e : Ed), cho V es i = (k : Int) ∧ es[k]? = some e ∧ P.find? (isCp V i) = some e.pe := by
  have hf : P.find? (isCp V i) = (es.find? (isC V i)).map Ed.pe := by
    rw [← hP, List.find?_map]
    rfl
  cases h : es.findIdx? (isC V i) with
  | none =>
    left
    refine ⟨by rw [cho_none h]; omega, ?_⟩
    rw [hf]
    have : es.find? (isC V i) = none := by
      rw [List.find?_eq_none]
      intro e he hc
      have := List.findIdx?_eq_none_iff.1 h e he
      rw [hc] at this
      cases this
    rw [this]
    rfl
  | some k =>
    right
    obtain ⟨hk, h1, h2⟩ := List.findIdx?_eq_some_iff_getElem.1 h
    refine ⟨k, es[k], cho_some h, List.getElem?_eq_getElem hk, ?_⟩
    rw [hf]
    have : es.find? (isC V i) = some es[k] := by
      rw [List.find?_eq_some_iff_getElem]
      exact ⟨h1, k, hk, rfl, fun j hj => by have := h2 j hj; simpa using this⟩
    rw [this]
    rfl
theorem some_unique {α β : Type} {g : α → Option β} {a0 : α} : ∀ {l : List α}, (∀ a ∈ l, a ≠ a0 → g a = none) → a0 ∈ l → l.findSome? g = g a0
  | [], _, h => by cases h
  | a :: l, hn, hm => by
    rw [List.findSome?_cons]
    cases hg : g a with
    | none =>
      simp only
      rcases List.mem_cons.1 hm with rfl | hm
      · rw [hg]
        rw [List.findSome?_eq_none_iff]
        intro b hb
        by_cases e : b = a0
        · subst e; exact hg
        · exact hn b (by simp [hb]) e
      · exact some_unique (fun b hb => hn b (by simp [hb])) hm
    | some x =>
      simp only
      by_cases e : a = a0
      · subst e; exact hg.symm
      · rw [hn a (by simp) e] at hg; cases hg
theorem some_none {α β : Type} {g : α → Option β} {l : List α} (h : ∀ a ∈ l, g a = none) : l.findSome? g = none := List.findSome?_eq_none_iff.2 h
theorem some_first {β : Type} {g : Nat → Option β} {x : β} {t : Nat} (h1 : ∀ a < t, g a = none) (h2 : g t = some x) : ∀ n, t < n → (List.range n).findSome? g = some x
  | 0, h => by omega
  | n + 1, h => by
    rw [List.range_succ, List.findSome?_append]
    by_cases e : t = n
    · subst e
      rw [some_none (fun a ha => h1 a (List.mem_range.1 ha))]
      simp [h2]
    · rw [some_first h1 h2 n (by omega)]
      rfl
section
variable {N S st : Nat} {R : List Rl} {L : List Ar} {fs : List Int} {cs : List Cl}
theorem mem_hgK {s t h k : Nat} {n : Int} {p : Pe} : p ∈ hgK N S R L s t h n k ↔ ∃ (j : Nat) (r : Rl) (i : Ins), j < k ∧ R[j]? = some r ∧ r.hd.toNat = h ∧ i ∈ insts L s t r ∧ p = insPe N S n j i := by
  unfold hgK
  rw [List.mem_flatMap]
  constructor
  · rintro ⟨j, hj, hm⟩
    cases hr : R[j]? with
    | none => rw [hr] at hm; simp at hm
    | some r =>
      rw [hr] at hm
      simp only at hm
      split at hm
      · rename_i hh
        obtain ⟨i, hi, rfl⟩ := List.mem_map.1 hm
        exact ⟨j, r, i, List.mem_range.1 hj, hr, hh, hi, rfl⟩
      · simp at hm
  · rintro ⟨j, r, i, hj, hr, hh, hi, rfl⟩
    refine ⟨j, List.mem_range.2 hj, ?_⟩
    rw [hr]
    simp only
    rw [if_pos hh]
    exact List.mem_map.2 ⟨i, hi, rfl⟩
theorem mem_hgS {p : Pe} : p ∈ hgS N S R L S ↔ ∃ (s t h j : Nat) (r : Rl) (i : Ins), s ≤ t ∧ t < S ∧ h < N ∧ R[j]? = some r ∧ r.hd.toNat = h ∧ i ∈ insts L s t r ∧ p = insPe N S (cix S s t * N + h : Nat) j i := by
  unfold hgS
  rw [List.mem_flatMap]
  constructor
  · rintro ⟨s, hs, hm⟩
    unfold hgT at hm
    obtain ⟨d, hd, hm⟩ := List.mem_flatMap.1 hm
    unfold hgH at hm
    obtain ⟨h, hh, hm⟩ := List.mem_flatMap.1 hm
    obtain ⟨j, r, i, _, h1, h2, h3, h4⟩ := mem_hgK.1 hm
    have h5 := List.mem_range.1 hs
    have h6 := List.mem_range.1 hd
    exact ⟨s, s + d, h, j, r, i, by omega, by omega, List.mem_range.1 hh, h1, h2, h3, h4⟩
  · rintro ⟨s, t, h, j, r, i, h1, h2, h3, h4, h5, h6, h7⟩
    refine ⟨s, List.mem_range.2 (by omega), ?_⟩
    unfold hgT
    refine List.mem_flatMap.2 ⟨t - s, List.mem_range.2 (by omega), ?_⟩
    unfold hgH
    refine List.mem_flatMap.2 ⟨h, List.mem_range.2 h3, ?_⟩
    rw [show s + (t - s) = t by omega]
    exact mem_hgK.2 ⟨j, r, i, (List.getElem?_eq_some_iff.1 h4).1, h4, h5, h6, h7⟩
theorem mem_hgG {p : Pe} : p ∈ hgG N S st fs S ↔ ∃ t, t < S ∧ fs[t]?.getD 0 < 1099511627776 ∧ p = ⟨(tri S S * N : Nat), [(cix S 0 t * N + st : Nat)], fs[t]?.getD 0, -1, t⟩ := by
  unfold hgG
  rw [List.mem_flatMap]
  constructor
  · rintro ⟨t, ht, hm⟩
    split at hm
    · rename_i hf
      simp at hm
      exact ⟨t, List.mem_range.1 ht, hf, by rw [hm]; rfl⟩
    · simp at hm
  · rintro ⟨t, ht, hf, rfl⟩
    exact ⟨t, List.mem_range.2 ht, by rw [if_pos hf]; exact List.mem_singleton.2 rfl⟩
theorem node_lt {s t h : Nat} (hst : s ≤ t) (ht : t < S) (hh : h < N) : cix S s t * N + h < tri S S * N := by
  have := cix_room (N := N) hst ht
  omega
theorem node_inj {s t h s' t' h' : Nat} (hst : s ≤ t) (ht : t < S) (hh : h < N) (hst' : s' ≤ t') (ht' : t' < S) (hh' : h' < N) (e : cix S s t * N + h = cix S s' t' * N + h') : s = s' ∧ t = t' ∧ h = h' := by
  by_cases hc : cix S s t = cix S s' t'
  · obtain ⟨h1, h2⟩ := cix_inj hst ht hst' ht' hc
    rw [hc] at e
    exact ⟨h1, h2, by omega⟩
  · rcases far_idx (N := N) hh hc with h5 | h5 <;> omega
theorem node_at (hN : 0 < N) {i : Nat} (hi : i < tri S S * N) : ∃ s t h, s ≤ t ∧ t < S ∧ h < N ∧ i = cix S s t * N + h := by
  have hci : i / N < tri S S := Nat.div_lt_of_lt_mul (by rw [Nat.mul_comm]; exact hi)
  obtain ⟨s, t, hst, hS, e⟩ := cix_at S (Nat.le_refl S) hci
  exact ⟨s, t, i % N, hst, hS, Nat.mod_lt _ hN, by rw [e, Nat.mul_comm, Nat.div_add_mod]⟩
/-- The hyperedges are valid. -/
theorem hg_ok (hR : ∀ r ∈ R, r.Ok N) (hL : ArsOk S L) (hst : st < N) (hf : ∀ f ∈ fs, 0 ≤ f) {p : Pe} (hp : p ∈ hgS N S R L S ++ hgG N S st fs S) :
    (0 ≤ p.hd ∧ p.hd < (tri S S * N + 1 : Nat)) ∧ (0 ≤ p.co ∧ p.co ≤ 1099511627776) ∧ (∀ x ∈ p.ts, 0 ≤ x ∧ x < (tri S S * N + 1 : Nat)) ∧ p.ts.length ≤ 4 := by
  rcases List.mem_append.1 hp with hp | hp
  · obtain ⟨s, t, h, j, r, i, h1, h2, h3, h4, h5, h6, rfl⟩ := mem_hgS.1 hp
    have hr := hR r (List.mem_of_getElem? h4)
    have hn := node_lt h1 h2 h3
    have hpr := insts_pr hr hL h6
    refine ⟨⟨Int.natCast_nonneg _, Int.ofNat_lt.2 (by omega)⟩, ⟨by simp only [insPe]; omega, by simp only [insPe]; omega⟩, fun x hx => ?_, ?_⟩
    · simp only [insPe] at hx
      obtain ⟨y, hy, rfl⟩ := List.mem_map.1 hx
      obtain ⟨g1, g2, g3, g4⟩ := insts_in hr h1 h6 hy
      have := node_lt (N := N) (S := S) (s := y.f.toNat) (t := y.t.toNat) (h := y.h.toNat) (by omega) (by omega) (by omega)
      exact ⟨Int.natCast_nonneg _, Int.ofNat_lt.2 (by omega)⟩
    · simp only [insPe, List.length_map]
      unfold insts at h6
      split at h6
      · split at h6
        · simp at h6; subst h6; simp
        · simp at h6
      · split at h6
        · obtain ⟨_, _, _, _, _, _, rfl⟩ := mem_arcs.1 h6
          simp
        · split at h6
          · simp at h6; subst h6; simp
          · obtain ⟨_, _, _, rfl⟩ := mem_splits.1 h6
            simp
  · obtain ⟨t, ht, hft, rfl⟩ := mem_hgG.1 hp
    have hn := node_lt (N := N) (S := S) (s := 0) (Nat.zero_le t) ht hst
    have h0 : 0 ≤ fs[t]?.getD 0 := by
      cases hc : fs[t]? with
      | none => simp
      | some f => exact hf f (List.mem_of_getElem? hc)
    refine ⟨⟨Int.natCast_nonneg _, Int.ofNat_lt.2 (by omega)⟩, ⟨h0, by simp only; omega⟩, fun x hx => ?_, by simp⟩
    rw [List.mem_singleton.1 hx]
    exact ⟨Int.natCast_nonneg _, Int.ofNat_lt.2 (by omega)⟩
/-- The values: those of the chart's cells, and the goal's. -/
def nodeV (N S : Nat) (cs : List Cl) (g : Vl) (i : Nat) : Vl := if i = tri S S * N then g else (cs[i]?.map Cl.v).getD vtop
variable {g : Vl}
theorem CC_at {s t h : Nat} (hst : s ≤ t) (ht : t < S) (hh : h < N) : CC N S cs ⟨h, s, t⟩ = ((cs[cix S s t * N + h]?).map Cl.v).getD vtop := by
  unfold CC atC
  rw [if_pos ⟨⟨by simp, by simp only; omega⟩, by simp, by simp only; omega, by simp only; omega⟩]
  simp only [Int.toNat_natCast]
  cases cs[cix S s t * N + h]? with
  | none => rfl
  | some x => rfl
theorem nodeV_item {s t h : Nat} (hst : s ≤ t) (ht : t < S) (hh : h < N) : nodeV N S cs g (cix S s t * N + h) = CC N S cs ⟨h, s, t⟩ := by
  have := node_lt hst ht hh
  unfold nodeV
  rw [if_neg (by omega), CC_at hst ht hh]
theorem nodeV_nd {x : It} (h1 : 0 ≤ x.h ∧ x.h < N) (h2 : 0 ≤ x.f) (h3 : x.f ≤ x.t) (h4 : x.t < S) : nodeV N S cs g (nd N S x).toNat = CC N S cs x := by
  unfold nd
  rw [Int.toNat_natCast, nodeV_item (s := x.f.toNat) (t := x.t.toNat) (h := x.h.toNat) (by omega) (by omega) (by omega)]
  congr 1
  obtain ⟨xh, xf, xt⟩ := x
  simp only at *
  rw [Int.toNat_of_nonneg h1.1, Int.toNat_of_nonneg h2, Int.toNat_of_nonneg (by omega)]
theorem CC_nrm (hc : Chart R L N S cs) (x : It) : Nrm (CC N S cs x) := atC_nrm hc.nrm x
theorem nodeV_nrm (hc : Chart R L N S cs) (hg : Nrm g) : NrmF (nodeV N S cs g) := fun i => by
  unfold nodeV
  split
  · exact hg
  · cases h : cs[i]? with
    | none => exact Nrm.top
    | some c => exact hc.nrm c (List.mem_of_getElem? h)
/-- What a hyperedge of an instance yields: the instance's value. -/
theorem evP_ins (V : Nat → Vl) {n : Int} {k : Nat} {i : Ins} (C : It → Vl) (h : ∀ x ∈ i.us, V (nd N S x).toNat = C x) : evP V (insPe N S n k i) = iv C i := by
  unfold evP insPe iv tlv
  simp only
  rw [comb_min, List.map_map]
  congr 1
  exact List.map_congr_left h
theorem spv_cc (hR : ∀ r ∈ R, r.Ok N) (hL : ArsOk S L) (hc : Chart R L N S cs) {s t : Nat} {U : Nat → Vl} (hst : s ≤ t) (ht : t < S) (hU : SSol R L s t (CC N S cs) U) (hcel : ∀ j < N, cs[cix S s t * N + j]? = some (cel R L s t (CC N S cs) U j)) {x : It} (hx : 0 ≤ x.h ∧ x.h < N) : spv (CC N S cs) s t U x = CC N S cs x := by
  unfold spv
  split
  · rename_i ho
    have h2 := own_iff.1 ho
    have e := CC_at (cs := cs) hst ht (show x.h.toNat < N by omega)
    rw [hcel x.h.toNat (by omega), Option.map_some, Option.getD_some, cel_val (CC_nrm hc) hR hL hU] at e
    obtain ⟨xh, xf, xt⟩ := x
    simp only at *
    rw [h2.1, h2.2, ← e, Int.toNat_of_nonneg hx.1]
  · rfl
theorem head_cc (hR : ∀ r ∈ R, r.Ok N) (hL : ArsOk S L) (hc : Chart R L N S cs) {s t : Nat} {U : Nat → Vl} (hst : s ≤ t) (ht : t < S) (hU : SSol R L s t (CC N S cs) U) (hcel : ∀ j < N, cs[cix S s t * N + j]? = some (cel R L s t (CC N S cs) U j)) {h : Nat} (hh : h < N) : CC N S cs ⟨h, s, t⟩ = U h := by
  rw [CC_at hst ht hh, hcel h hh, Option.map_some, Option.getD_some, cel_val (CC_nrm hc) hR hL hU]
theorem iv_cc (hR : ∀ r ∈ R, r.Ok N) (hL : ArsOk S L) (hc : Chart R L N S cs) {s t : Nat} {U : Nat → Vl} (hst : s ≤ t) (ht : t < S) (hU : SSol R L s t (CC N S cs) U) (hcel : ∀ j < N, cs[cix S s t * N + j]? = some (cel R L s t (CC N S cs) U j)) {r : Rl} (hr : r ∈ R) {i : Ins} (hi : i ∈ insts L s t r) : iv (spv (CC N S cs) s t U) i = iv (CC N S cs) i := by
  unfold iv
  congr 1
  apply List.map_congr_left
  intro x hx
  exact spv_cc hR hL hc hst ht hU hcel (insts_in (hR r hr) hst hi hx).1
theorem evP_cc (hR : ∀ r ∈ R, r.Ok N) {s t : Nat} (hst : s ≤ t) (ht : t < S) {r : Rl} (hr : r ∈ R) {i : Ins} (hi : i ∈ insts L s t r) (n : Int) (k : Nat) : evP (nodeV N S cs g) (insPe N S n k i) = iv (CC N S cs) i :=
  evP_ins _ _ fun x hx => by
    obtain ⟨g1, g2, g3, g4⟩ := insts_in (hR r hr) hst hi hx
    exact nodeV_nd g1 (by omega) g3 (by omega)
/-- The goal: the first final state that attains the least total. -/
theorem gto_first (N S : Nat) (st : Int) (cs : List Cl) (fs : List Int) (hcs : ∀ x, Ordy (atC N S cs x).v) : ∀ i,
    (gto N S st cs fs i = (vtop, -1) ∧ ∀ j < i, ¬ (gval N S st cs fs j).c < 1099511627776) ∨
    ∃ t : Nat, t < i ∧ gto N S st cs fs i = (gval N S st cs fs t, (t : Int)) ∧ (gval N S st cs fs t).c < 1099511627776 ∧ (∀ j < i, (gval N S st cs fs j).c < 1099511627776 → vle (gval N S st cs fs t) (gval N S st cs fs j)) ∧ ∀ j < t, (gval N S st cs fs j).c < 1099511627776 → gval N S st cs fs j ≠ gval N S st cs fs t
  | 0 => .inl ⟨rfl, fun j h => by omega⟩
  | i + 1 => by
    have hfin : (gval N S st cs fs i).c < 1099511627776 → fs[i]?.getD 0 < 1099511627776 := fun h => by
      apply Classical.byContradiction
      intro hc
      exact comb_top (by omega) (by intro u hu; simp at hu; rw [hu]; exact hcs _) h
    have hg : gto N S st cs fs (i + 1) = if fs[i]?.getD 0 < 1099511627776 ∧ (gval N S st cs fs i).c < 1099511627776 ∧ ((gto N S st cs fs i).2 < 0 ∨ vlt (gval N S st cs fs i).c (gval N S st cs fs i).s (gto N S st cs fs i).1.c (gto N S st cs fs i).1.s = true) then (gval N S st cs fs i, (i : Int)) else gto N S st cs fs i := rfl
    by_cases hv : (gval N S st cs fs i).c < 1099511627776
    · rcases gto_first N S st cs fs hcs i with ⟨h1, h2⟩ | ⟨t, h1, h2, h3, h4, h5⟩
      · right
        refine ⟨i, by omega, ?_, hv, fun j hj hjf => ?_, fun j hj hjf => absurd hjf (h2 j hj)⟩
        · rw [hg, h1, if_pos ⟨hfin hv, hv, .inl (by simp)⟩]
        · by_cases e : j = i
          · subst e; exact vle.refl _
          · exact absurd hjf (h2 j (by omega))
      · right
        by_cases hl : vlt (gval N S st cs fs i).c (gval N S st cs fs i).s (gval N S st cs fs t).c (gval N S st cs fs t).s = true
        · have hl' := vlt_iff_.1 hl
          refine ⟨i, by omega, ?_, hv, fun j hj hjf => ?_, fun j hj hjf e => ?_⟩
          · rw [hg, h2, if_pos ⟨hfin hv, hv, .inr hl⟩]
          · by_cases e : j = i
            · subst e; exact vle.refl _
            · have := h4 j (by omega) hjf
              unfold vle at *
              omega
          · have := h4 j hj hjf
            rw [e] at this
            unfold vle at this
            omega
        · refine ⟨t, by omega, ?_, h3, fun j hj hjf => ?_, h5⟩
          · rw [hg, h2, if_neg (fun hc => by
              rcases hc.2.2 with h | h
              · simp only at h; omega
              · exact hl h)]
          · by_cases e : j = i
            · subst e
              rw [vlt_iff_] at hl
              unfold vle
              omega
            · exact h4 j (by omega) hjf
    · have he : gto N S st cs fs (i + 1) = gto N S st cs fs i := by rw [hg, if_neg (fun hc => hv hc.2.1)]
      rw [he]
      rcases gto_first N S st cs fs hcs i with ⟨h1, h2⟩ | ⟨t, h1, h2, h3, h4, h5⟩
      · left
        exact ⟨h1, fun j hj => by
          by_cases e : j = i
          · subst e; exact hv
          · exact h2 j (by omega)⟩
      · right
        exact ⟨t, by omega, h2, h3, fun j hj hjf => by
          by_cases e : j = i
          · subst e; exact absurd hjf hv
          · exact h4 j (by omega) hjf, h5⟩
end
end Go.Proofs.YthakcefgbggkcaaDoor

namespace Go.Proofs.YthakcefgbggkcaaDoor
open Go.RowKit

section
variable {N S st : Nat} {R : List Rl} {L : List Ar} {fs : List Int} {cs : List Cl} {es : List Ed}
theorem fs_fin (hcs : ∀ x, Ordy (atC N S cs x).v) {t : Nat} (h : (gval N S st cs fs t).c < 1099511627776) : fs[t]?.getD 0 < 1099511627776 := by
  apply Classical.byContradiction
  intro hc
  exact comb_top (by omega) (by intro u hu; simp at hu; rw [hu]; exact hcs _) h
theorem fs_nonneg (hf : ∀ f ∈ fs, 0 ≤ f) (t : Nat) : 0 ≤ fs[t]?.getD 0 := by
  cases hc : fs[t]? with
  | none => simp
  | some f => exact hf f (List.mem_of_getElem? hc)
theorem gval_nrm (hc : Chart R L N S cs) (hf : ∀ f ∈ fs, 0 ≤ f) (t : Nat) : Nrm (gval N S st cs fs t) :=
  comb_nrm (fs_nonneg hf t) (by intro u hu; simp at hu; rw [hu]; exact (CC_nrm hc _).1)
theorem goal_nrm (hc : Chart R L N S cs) (hf : ∀ f ∈ fs, 0 ≤ f) (i : Nat) : Nrm (gto N S st cs fs i).1 := by
  rcases gto_first N S st cs fs (fun x => (CC_nrm hc x).1) i with ⟨h1, _⟩ | ⟨t, _, h2, _⟩
  · rw [h1]; exact Nrm.top
  · rw [h2]; exact gval_nrm hc hf t
theorem evP_goal (hst : st < N) {t : Nat} (ht : t < S) (g : Vl) : evP (nodeV N S cs g) ⟨(tri S S * N : Nat), [(cix S 0 t * N + st : Nat)], fs[t]?.getD 0, -1, t⟩ = gval N S st cs fs t := by
  unfold evP gval tlv
  simp only [List.map_cons, List.map_nil, Int.toNat_natCast]
  rw [nodeV_item (Nat.zero_le t) ht hst]
  rfl
theorem own_nd {s t : Nat} {x : It} (h : It.own s t x = true) : nd N S x = (cix S s t * N + x.h.toNat : Nat) := by
  obtain ⟨h1, h2⟩ := own_iff.1 h
  unfold nd
  rw [h1, h2, Int.toNat_natCast, Int.toNat_natCast]
/-- No values that no hyperedge undercuts are above the chart's. -/
theorem hyper_low (hR : ∀ r ∈ R, r.Ok N) (hL : ArsOk S L) (hc : Chart R L N S cs) (hes : ∀ p ∈ hgS N S R L S, ∃ e ∈ es, e.pe = p) {U' : Nat → Vl} (hU' : NrmF U') (hP : PreFix es U') :
    ∀ d s t, t - s < d → s ≤ t → t < S → ∀ h < N, vle (U' (cix S s t * N + h)) (CC N S cs ⟨h, s, t⟩) := by
  intro d
  induction d with
  | zero => intro s t h; omega
  | succ d ih =>
    intro s t hd hst ht h hh
    obtain ⟨U, hU, hcel⟩ := hc.span hst ht
    rw [head_cc hR hL hc hst ht hU hcel hh]
    have hn : ∀ h, Nrm ((fun h => if h < N then U' (cix S s t * N + h) else vtop) h) := fun h => by
      simp only
      split
      · exact hU' _
      · exact Nrm.top
    have hp : PreS R L s t (CC N S cs) (fun h => if h < N then U' (cix S s t * N + h) else vtop) := by
      intro r hr i hi
      obtain ⟨j, hj⟩ := List.getElem?_of_mem hr
      have hro := hR r hr
      have hhd : r.hd.toNat < N := by have := hro.hd; omega
      obtain ⟨e, he, hpe⟩ := hes _ (mem_hgS.2 ⟨s, t, r.hd.toNat, j, r, i, hst, ht, hhd, hj, rfl, hi, rfl⟩)
      have h1 := hP e he
      have h2 : ev U' e = evP U' e.pe := rfl
      have h3 : e.hd = e.pe.hd := rfl
      rw [h2, h3, hpe] at h1
      have h4 : (insPe N S (cix S s t * N + r.hd.toNat : Nat) j i).hd.toNat = cix S s t * N + r.hd.toNat := Int.toNat_natCast _
      rw [h4] at h1
      show vle (if r.hd.toNat < N then U' (cix S s t * N + r.hd.toNat) else vtop) _
      rw [if_pos hhd]
      refine h1.trans ?_
      unfold evP insPe iv tlv
      simp only
      rw [comb_min, List.map_map]
      have hpr := (insts_pr hro hL hi).1
      refine comb_mono hpr (LeL.map fun x hx => ?_) (fun v hv => ?_) (fun v hv => ?_)
      · obtain ⟨g1, g2, g3, g4⟩ := insts_in hro hst hi hx
        show vle (U' (nd N S x).toNat) (spv _ s t _ x)
        unfold spv
        by_cases ho : It.own s t x = true
        · rw [if_pos ho, own_nd ho, Int.toNat_natCast]
          simp only
          rw [if_pos (show x.h.toNat < N by omega)]
          exact vle.refl _
        · rw [if_neg ho]
          have hne : ¬ (x.f = (s : Int) ∧ x.t = (t : Int)) := fun e => ho (own_iff.2 e)
          have h5 := ih x.f.toNat x.t.toNat (by omega) (by omega) (by omega) x.h.toNat (by omega)
          unfold nd
          rw [Int.toNat_natCast]
          obtain ⟨xh, xf, xt⟩ := x
          simp only at *
          rw [Int.toNat_of_nonneg g1.1, Int.toNat_of_nonneg (by omega), Int.toNat_of_nonneg (by omega)] at h5
          exact h5
      · obtain ⟨x, _, rfl⟩ := List.mem_map.1 hv
        exact (hU' _).1
      · obtain ⟨x, _, rfl⟩ := List.mem_map.1 hv
        unfold spv
        split
        · exact (hn _).1
        · exact (CC_nrm hc _).1
    have h6 := hU.top _ hn hp h
    replace h6 : vle (if h < N then U' (cix S s t * N + h) else vtop) (U h) := h6
    rw [if_pos hh] at h6
    exact h6
/-- The chart's values, and the goal's, are the solution. -/
theorem hyper_sol (hR : ∀ r ∈ R, r.Ok N) (hL : ArsOk S L) (hc : Chart R L N S cs) (hN : 0 < N) (hst : st < N) (hf : ∀ f ∈ fs, 0 ≤ f) (hes : es.map Ed.pe = hgS N S R L S ++ hgG N S st fs S) : Sol es (nodeV N S cs (gto N S st cs fs S).1) := by
  have hcs : ∀ x, Ordy (atC N S cs x).v := fun x => (CC_nrm hc x).1
  have hgn := goal_nrm (st := st) hc hf S
  have hVn := nodeV_nrm hc hgn
  have hmem : ∀ p ∈ hgS N S R L S ++ hgG N S st fs S, ∃ e ∈ es, e.pe = p := fun p hp => by
    rw [← hes] at hp
    obtain ⟨e, he, h⟩ := List.mem_map.1 hp
    exact ⟨e, he, h⟩
  have hgt := gto_first N S st cs fs hcs S
  have hVG : nodeV N S cs (gto N S st cs fs S).1 (tri S S * N) = (gto N S st cs fs S).1 := by unfold nodeV; rw [if_pos rfl]
  refine ⟨hVn, fun e he => ?_, fun U' hU' hP i => ?_⟩
  · have hp : e.pe ∈ hgS N S R L S ++ hgG N S st fs S := by rw [← hes]; exact List.mem_map.2 ⟨e, he, rfl⟩
    have h2 : ev (nodeV N S cs (gto N S st cs fs S).1) e = evP (nodeV N S cs (gto N S st cs fs S).1) e.pe := rfl
    have h3 : e.hd = e.pe.hd := rfl
    rw [h2, h3]
    rcases List.mem_append.1 hp with hp | hp
    · obtain ⟨s, t, h, j, r, i, h1, h2, h3, h4, h5, h6, e1⟩ := mem_hgS.1 hp
      have hr := List.mem_of_getElem? h4
      obtain ⟨U, hU, hcel⟩ := hc.span h1 h2
      rw [e1, evP_cc hR h1 h2 hr h6]
      show vle (nodeV N S cs _ (Int.toNat ((cix S s t * N + h : Nat) : Int))) _
      rw [Int.toNat_natCast, nodeV_item h1 h2 h3, head_cc hR hL hc h1 h2 hU hcel h3, ← iv_cc hR hL hc h1 h2 hU hcel hr h6, ← h5]
      exact hU.pre r hr i h6
    · obtain ⟨t, ht, hft, e1⟩ := mem_hgG.1 hp
      rw [e1, evP_goal hst ht]
      show vle (nodeV N S cs _ (Int.toNat ((tri S S * N : Nat) : Int))) _
      rw [Int.toNat_natCast, hVG]
      by_cases hfin : (gval N S st cs fs t).c < 1099511627776
      · rcases hgt with ⟨h1, h2⟩ | ⟨t0, h1, h2, h3, h4, _⟩
        · exact absurd hfin (h2 t ht)
        · rw [h2]; exact h4 t ht hfin
      · rw [(gval_nrm (st := st) hc hf t).eq_top (by omega)]
        exact hgn.le_top
  · by_cases hi : i < tri S S * N
    · obtain ⟨s, t, h, h1, h2, h3, rfl⟩ := node_at hN hi
      rw [nodeV_item h1 h2 h3]
      exact hyper_low hR hL hc (fun p hp => hmem p (by simp [hp])) hU' hP (t - s + 1) s t (by omega) h1 h2 h h3
    · by_cases hG : i = tri S S * N
      · subst hG
        rw [hVG]
        rcases hgt with ⟨h1, h2⟩ | ⟨t0, h1, h2, h3, h4, _⟩
        · rw [h1]; exact (hU' _).le_top
        · rw [h2]
          have hft := fs_fin (st := st) hcs h3
          obtain ⟨e, he, hpe⟩ := hmem _ (List.mem_append_right _ (mem_hgG.2 ⟨t0, h1, hft, rfl⟩))
          have h5 := hP e he
          have h6 : ev U' e = evP U' e.pe := rfl
          have h7 : e.hd = e.pe.hd := rfl
          rw [h6, h7, hpe] at h5
          rw [show Int.toNat (⟨(tri S S * N : Nat), [(cix S 0 t0 * N + st : Nat)], fs[t0]?.getD 0, -1, t0⟩ : Pe).hd = tri S S * N from Int.toNat_natCast _] at h5
          refine h5.trans ?_
          show vle _ (gval N S st cs fs t0)
          unfold evP gval tlv
          simp only [List.map_cons, List.map_nil, Int.toNat_natCast]
          refine comb_mono (fs_nonneg hf t0) (.cons ?_ .nil) (fun v hv => ?_) (fun v hv => ?_)
          · have := hyper_low hR hL hc (fun p hp => hmem p (by simp [hp])) hU' hP (t0 - 0 + 1) 0 t0 (by omega) (Nat.zero_le _) h1 st hst
            exact this
          · simp at hv; rw [hv]; exact (hU' _).1
          · simp at hv; rw [hv]; exact hcs _
      · have hz : nodeV N S cs (gto N S st cs fs S).1 i = vtop := by
          unfold nodeV
          rw [if_neg hG, List.getElem?_eq_none (by rw [hc.len]; omega)]
          rfl
        rw [hz]
        exact (hU' i).le_top
theorem hgK_insH (s t h : Nat) (n : Int) : hgK N S R L s t h n R.length = (insH R L s t h).map fun x => insPe N S n x.1 x.2 := by
  unfold hgK insH
  rw [List.map_flatMap]
  refine fl_congr fun k _ => ?_
  cases R[k]? with
  | none => rfl
  | some r =>
    simp only
    split
    · rw [List.map_map]; rfl
    · rfl
theorem hgK_hd {s t h k : Nat} {n : Int} {p : Pe} (hp : p ∈ hgK N S R L s t h n k) : p.hd = n := by
  obtain ⟨j, r, i, _, _, _, _, rfl⟩ := mem_hgK.1 hp
  rfl
theorem find_hd {V : Nat → Vl} {n : Nat} {P : List Pe} (h : ∀ p ∈ P, p.hd.toNat ≠ n) : P.find? (isCp V n) = none := by
  rw [List.find?_eq_none]
  intro p hp hc
  simp only [isCp, Bool.and_eq_true, decide_eq_true_eq] at hc
  exact h p hp hc.1
/-- The first hyperedge of an item that attains is the first one of its own. -/
theorem find_item (V : Nat → Vl) {s t h : Nat} (hst : s ≤ t) (ht : t < S) (hh : h < N) :
    (hgS N S R L S ++ hgG N S st fs S).find? (isCp V (cix S s t * N + h)) = (hgK N S R L s t h (cix S s t * N + h : Nat) R.length).find? (isCp V (cix S s t * N + h)) := by
  have hg : (hgG N S st fs S).find? (isCp V (cix S s t * N + h)) = none := find_hd fun p hp => by
    obtain ⟨t', _, _, rfl⟩ := mem_hgG.1 hp
    show Int.toNat ((tri S S * N : Nat) : Int) ≠ _
    rw [Int.toNat_natCast]
    have := node_lt hst ht hh
    omega
  rw [List.find?_append, hg, Option.or_none]
  unfold hgS
  rw [List.find?_flatMap, some_unique (a0 := s) (fun s' hs' hne => ?_) (List.mem_range.2 (by omega))]
  · unfold hgT
    rw [List.find?_flatMap, some_unique (a0 := t - s) (fun d hd hne => ?_) (List.mem_range.2 (by omega))]
    · rw [show s + (t - s) = t by omega]
      unfold hgH
      rw [List.find?_flatMap, some_unique (a0 := h) (fun h' hh' hne => ?_) (List.mem_range.2 hh)]
      refine find_hd fun p hp => ?_
      rw [hgK_hd hp, Int.toNat_natCast]
      omega
    · refine find_hd fun p hp => ?_
      unfold hgH at hp
      obtain ⟨h', hh', hp⟩ := List.mem_flatMap.1 hp
      have h1 := List.mem_range.1 hd
      have h2 := List.mem_range.1 hh'
      rw [hgK_hd hp, Int.toNat_natCast]
      intro e
      have := node_inj (show s ≤ s + d by omega) (by omega) h2 hst ht hh e
      omega
  · refine find_hd fun p hp => ?_
    unfold hgT at hp
    obtain ⟨d, hd, hp⟩ := List.mem_flatMap.1 hp
    unfold hgH at hp
    obtain ⟨h', hh', hp⟩ := List.mem_flatMap.1 hp
    have h0 := List.mem_range.1 hs'
    have h1 := List.mem_range.1 hd
    have h2 := List.mem_range.1 hh'
    rw [hgK_hd hp, Int.toNat_natCast]
    intro e
    have := node_inj (show s' ≤ s' + d by omega) (by omega) h2 hst ht hh e
    omega
/-- The cell of an item is the value and the label of the first hyperedge that attains it. -/
theorem label_item (hR : ∀ r ∈ R, r.Ok N) (hL : ArsOk S L) (hc : Chart R L N S cs) (g : Vl) {s t h : Nat} (hst : s ≤ t) (ht : t < S) (hh : h < N) :
    ((hgS N S R L S ++ hgG N S st fs S).find? (isCp (nodeV N S cs g) (cix S s t * N + h)) = none ∧ cs[cix S s t * N + h]? = some ⟨nodeV N S cs g (cix S s t * N + h), -1, 0⟩) ∨
    ∃ p, (hgS N S R L S ++ hgG N S st fs S).find? (isCp (nodeV N S cs g) (cix S s t * N + h)) = some p ∧ cs[cix S s t * N + h]? = some ⟨nodeV N S cs g (cix S s t * N + h), p.l0, p.l1⟩ := by
  obtain ⟨U, hU, hcel⟩ := hc.span hst ht
  have hV : nodeV N S cs g (cix S s t * N + h) = U h := by rw [nodeV_item hst ht hh, head_cc hR hL hc hst ht hU hcel hh]
  rw [find_item _ hst ht hh, hgK_insH, List.find?_map, hcel h hh]
  have hpred : ∀ x ∈ insH R L s t h, (isCp (nodeV N S cs g) (cix S s t * N + h) ∘ fun x : Nat × Ins => insPe N S (cix S s t * N + h : Nat) x.1 x.2) x = (decide ((U h).c < 1099511627776) && atts (CC N S cs) s t U h x) := by
    intro x hx
    obtain ⟨k, i⟩ := x
    obtain ⟨r, hr, _, hi⟩ := mem_insH.1 hx
    have hrm := List.mem_of_getElem? hr
    simp only [Function.comp]
    unfold isCp attP
    have e1 : (insPe N S (cix S s t * N + h : Nat) k i).hd.toNat = cix S s t * N + h := Int.toNat_natCast _
    rw [e1, hV, evP_cc hR hst ht hrm hi, ← iv_cc hR hL hc hst ht hU hcel hrm hi]
    simp [atts]
  by_cases hfin : (U h).c < 1099511627776
  · right
    obtain ⟨x0, hx0, ha0⟩ := SSol.attained (CC_nrm hc) hR hL hU hfin
    have hfe : (insH R L s t h).find? (isCp (nodeV N S cs g) (cix S s t * N + h) ∘ fun x : Nat × Ins => insPe N S (cix S s t * N + h : Nat) x.1 x.2) = (insH R L s t h).find? (atts (CC N S cs) s t U h) := by
      have key : ∀ l : List (Nat × Ins), (∀ x ∈ l, x ∈ insH R L s t h) → l.find? (isCp (nodeV N S cs g) (cix S s t * N + h) ∘ fun x : Nat × Ins => insPe N S (cix S s t * N + h : Nat) x.1 x.2) = l.find? (atts (CC N S cs) s t U h) := by
        intro l
        induction l with
        | nil => intro _; rfl
        | cons x l ih =>
          intro hl
          rw [List.find?_cons, List.find?_cons, ih (fun y hy => hl y (by simp [hy])), hpred x (hl x (by simp))]
          simp [hfin]
      exact key _ fun _ h => h
    rw [hfe]
    cases hfd : (insH R L s t h).find? (atts (CC N S cs) s t U h) with
    | none =>
      have := List.find?_eq_none.1 hfd x0 hx0
      rw [ha0] at this
      exact absurd rfl this
    | some x =>
      refine ⟨_, rfl, ?_⟩
      rw [hV]
      unfold cel
      rw [if_pos hfin, hfd]
      rfl
  · left
    refine ⟨?_, ?_⟩
    · have : (insH R L s t h).find? (isCp (nodeV N S cs g) (cix S s t * N + h) ∘ fun x : Nat × Ins => insPe N S (cix S s t * N + h : Nat) x.1 x.2) = none := by
        rw [List.find?_eq_none]
        intro x hx hcx
        rw [hpred x hx] at hcx
        simp [hfin] at hcx
      rw [this]
      rfl
    · rw [hV, (hU.nrm h).eq_top (by omega)]
      unfold cel
      rw [if_neg hfin]
      rfl
/-- The goal's first hyperedge that attains is that of its first least final state. -/
theorem label_goal (hc : Chart R L N S cs) (hst : st < N) :
    ((hgS N S R L S ++ hgG N S st fs S).find? (isCp (nodeV N S cs (gto N S st cs fs S).1) (tri S S * N)) = none ∧ (gto N S st cs fs S).2 = -1) ∨
    ∃ p, (hgS N S R L S ++ hgG N S st fs S).find? (isCp (nodeV N S cs (gto N S st cs fs S).1) (tri S S * N)) = some p ∧ (gto N S st cs fs S).2 = p.l1 := by
  have hcs : ∀ x, Ordy (atC N S cs x).v := fun x => (CC_nrm hc x).1
  have hVG : nodeV N S cs (gto N S st cs fs S).1 (tri S S * N) = (gto N S st cs fs S).1 := by unfold nodeV; rw [if_pos rfl]
  have hs : (hgS N S R L S).find? (isCp (nodeV N S cs (gto N S st cs fs S).1) (tri S S * N)) = none := find_hd fun p hp => by
    obtain ⟨s, t, h, j, r, i, h1, h2, h3, _, _, _, rfl⟩ := mem_hgS.1 hp
    have e1 : (insPe N S (cix S s t * N + h : Nat) j i).hd.toNat = cix S s t * N + h := Int.toNat_natCast _
    rw [e1]
    have := node_lt h1 h2 h3
    omega
  rw [List.find?_append, hs, Option.none_or]
  unfold hgG
  rw [List.find?_flatMap]
  have hone : ∀ t, t < S → ∀ g : Vl, isCp (nodeV N S cs g) (tri S S * N) ⟨(tri S S * N : Nat), [(cix S 0 t * N + st : Nat)], fs[t]?.getD 0, -1, t⟩ = (decide (g.c < 1099511627776) && (decide ((gval N S st cs fs t).c = g.c) && decide ((gval N S st cs fs t).s = g.s))) := fun t ht g => by
    unfold isCp attP
    have e1 : Int.toNat (⟨(tri S S * N : Nat), [(cix S 0 t * N + st : Nat)], fs[t]?.getD 0, -1, t⟩ : Pe).hd = tri S S * N := Int.toNat_natCast _
    have e2 : nodeV N S cs g (tri S S * N) = g := by unfold nodeV; rw [if_pos rfl]
    rw [e1, evP_goal hst ht, e2]
    simp
  rcases gto_first N S st cs fs hcs S with ⟨h1, h2⟩ | ⟨t0, h1, h2, h3, h4, h5⟩
  · left
    refine ⟨some_none fun t ht => ?_, by rw [h1]⟩
    split
    · rw [List.find?_cons, hone t (List.mem_range.1 ht), h1]
      simp [vtop]
    · rfl
  · right
    have hft := fs_fin (st := st) hcs h3
    refine ⟨⟨(tri S S * N : Nat), [(cix S 0 t0 * N + st : Nat)], fs[t0]?.getD 0, -1, t0⟩, some_first (t := t0) (fun a ha => ?_) ?_ S h1, ?_⟩
    · split
      · rw [List.find?_cons, hone a (by omega), h2]
        have hne : ¬ ((gval N S st cs fs a).c = (gval N S st cs fs t0).c ∧ (gval N S st cs fs a).s = (gval N S st cs fs t0).s) := fun e => h5 a ha (by omega) (Vl.ext' e.1 e.2)
        have : (decide ((gval N S st cs fs a).c = (gval N S st cs fs t0).c) && decide ((gval N S st cs fs a).s = (gval N S st cs fs t0).s)) = false := by
          rw [Bool.eq_false_iff]
          intro hcc
          simp only [Bool.and_eq_true, decide_eq_true_eq] at hcc
          exact hne hcc
        simp only [this, Bool.and_false]
        rfl
      · rfl
    · rw [if_pos hft, List.find?_cons, hone t0 h1, h2]
      simp [h3]
    · rw [h2]
/-- What the law of Knuth asks. -/
theorem knuth_law (hR : ∀ r ∈ R, r.Ok N) (hL : ArsOk S L) (hc : Chart R L N S cs) (hN : 0 < N) (hst : st < N) (hf : ∀ f ∈ fs, 0 ≤ f) (hes : es.map Ed.pe = hgS N S R L S ++ hgG N S st fs S) {V : List Vl} (hV : Sol es (gv V)) :
    (∀ i, i < tri S S * N → ∃ x, cs[i]? = some x ∧ gv V i = x.v ∧ ((cho (gv V) es i < 0 ∧ x.r = -1 ∧ x.a = 0) ∨ ∃ (k : Nat) (e : Ed), cho (gv V) es i = (k : Int) ∧ es[k]? = some e ∧ x.r = e.l0 ∧ x.a = e.l1)) ∧
    gv V (tri S S * N) = (gto N S st cs fs S).1 ∧ ((cho (gv V) es (tri S S * N) < 0 ∧ (gto N S st cs fs S).2 = -1) ∨ ∃ (k : Nat) (e : Ed), cho (gv V) es (tri S S * N) = (k : Int) ∧ es[k]? = some e ∧ (gto N S st cs fs S).2 = e.l1) := by
  have hs := hyper_sol hR hL hc hN hst hf hes
  have e := hV.uniq hs
  rw [e]
  refine ⟨fun i hi => ?_, by unfold nodeV; rw [if_pos rfl], ?_⟩
  · obtain ⟨s, t, h, h1, h2, h3, rfl⟩ := node_at hN hi
    rcases label_item (fs := fs) (st := st) hR hL hc (gto N S st cs fs S).1 h1 h2 h3 with ⟨h4, h5⟩ | ⟨p, h4, h5⟩
    · refine ⟨_, h5, rfl, .inl ⟨?_, rfl, rfl⟩⟩
      rcases cho_find (V := nodeV N S cs (gto N S st cs fs S).1) hes (cix S s t * N + h) with ⟨h6, _⟩ | ⟨k, e, _, _, h6⟩
      · exact h6
      · rw [h4] at h6; cases h6
    · refine ⟨_, h5, rfl, .inr ?_⟩
      rcases cho_find (V := nodeV N S cs (gto N S st cs fs S).1) hes (cix S s t * N + h) with ⟨_, h6⟩ | ⟨k, e, h6, h7, h8⟩
      · rw [h4] at h6; cases h6
      · rw [h4] at h8
        injection h8 with h8
        exact ⟨k, e, h6, h7, by rw [h8]; rfl, by rw [h8]; rfl⟩
  · rcases label_goal (R := R) (L := L) (fs := fs) hc hst with ⟨h4, h5⟩ | ⟨p, h4, h5⟩
    · left
      refine ⟨?_, h5⟩
      rcases cho_find (V := nodeV N S cs (gto N S st cs fs S).1) hes (tri S S * N) with ⟨h6, _⟩ | ⟨k, e, _, _, h6⟩
      · exact h6
      · rw [h4] at h6; cases h6
    · right
      rcases cho_find (V := nodeV N S cs (gto N S st cs fs S).1) hes (tri S S * N) with ⟨_, h6⟩ | ⟨k, e, h6, h7, h8⟩
      · rw [h4] at h6; cases h6
      · rw [h4] at h8
        injection h8 with h8
        exact ⟨k, e, h6, h7, by rw [h5, h8]; rfl⟩
end
end Go.Proofs.YthakcefgbggkcaaDoor
