/- The reference's span: instances applied until nothing changes give the least values and the first instances that attain them. Plain. -/
import Derived.Test.YthakcefgbggkcaaDoorCMa
namespace Go.Proofs.YthakcefgbggkcaaDoor

/-- The values that a span's cells hold. -/
def vf (cs : List Cl) (h : Nat) : Vl := ((cs[h]?).getD cnone).v
/-- Whether an instance's value, rule and argument are better than a cell. -/
def bett (a : Cl) (v : Vl) (k g : Int) : Prop := v.c < 1099511627776 ∧ ((v.c < a.v.c ∨ (v.c = a.v.c ∧ v.s < a.v.s)) ∨ ((v.c = a.v.c ∧ v.s = a.v.s) ∧ (k < a.r ∨ (k = a.r ∧ g < a.a))))
instance (a : Cl) (v : Vl) (k g : Int) : Decidable (bett a v k g) := by unfold bett; exact inferInstance
/-- What an instance makes of a cell. -/
def btr (a : Cl) (v : Vl) (k g : Int) : Cl := if bett a v k g then ⟨v, k, g⟩ else a
/-- What a rule's instances make of a cell. -/
def impr (W : It → Vl) (k : Int) (l : List Ins) (c : Cl) : Cl := l.foldl (fun c i => btr c (iv W i) k i.arg) c
/-- The order of cells. -/
def clt (a b : Cl) : Prop := a.v.c < b.v.c ∨ (a.v.c = b.v.c ∧ (a.v.s < b.v.s ∨ (a.v.s = b.v.s ∧ (a.r < b.r ∨ (a.r = b.r ∧ a.a < b.a)))))
theorem clt.trans {a b c : Cl} (h : clt a b) (h' : clt b c) : clt a c := by unfold clt at *; omega
theorem btr_cases (a : Cl) (v : Vl) (k g : Int) : btr a v k g = a ∧ ¬ bett a v k g ∨ btr a v k g = ⟨v, k, g⟩ ∧ v.c < 1099511627776 ∧ clt ⟨v, k, g⟩ a := by
  unfold btr
  by_cases h : bett a v k g
  · right
    rw [if_pos h]
    refine ⟨rfl, h.1, ?_⟩
    unfold bett at h
    unfold clt
    simp only
    omega
  · left
    rw [if_neg h]
    exact ⟨rfl, h⟩
theorem bett_lower {a b : Cl} {v : Vl} {k g : Int} (h : clt b a) (hn : ¬ bett a v k g) : ¬ bett b v k g := by
  unfold bett clt at *
  omega
theorem btr_not (a : Cl) (v : Vl) (k g : Int) : ¬ bett (btr a v k g) v k g := by
  rcases btr_cases a v k g with ⟨e, h⟩ | ⟨e, _, _⟩
  · rw [e]; exact h
  · rw [e]
    unfold bett
    simp only
    omega
theorem impr_nil (W : It → Vl) (k : Int) (c : Cl) : impr W k [] c = c := rfl
theorem impr_cons (W : It → Vl) (k : Int) (i : Ins) (l : List Ins) (c : Cl) : impr W k (i :: l) c = impr W k l (btr c (iv W i) k i.arg) := rfl
theorem impr_snoc (W : It → Vl) (k : Int) (l : List Ins) (i : Ins) (c : Cl) : impr W k (l ++ [i]) c = btr (impr W k l c) (iv W i) k i.arg := by simp [impr]
theorem impr_cases (W : It → Vl) (k : Int) : ∀ (l : List Ins) (c : Cl), impr W k l c = c ∨ (clt (impr W k l c) c ∧ ∃ i ∈ l, impr W k l c = ⟨iv W i, k, i.arg⟩ ∧ (iv W i).c < 1099511627776)
  | [], _ => .inl rfl
  | i :: l, c => by
    rw [impr_cons]
    rcases impr_cases W k l (btr c (iv W i) k i.arg) with e | ⟨h1, j, hj, e, hf⟩
    · rw [e]
      rcases btr_cases c (iv W i) k i.arg with ⟨e2, _⟩ | ⟨e2, h2, h3⟩
      · exact .inl e2
      · rw [e2]
        exact .inr ⟨h3, i, by simp, rfl, h2⟩
    · refine .inr ⟨?_, j, by simp [hj], e, hf⟩
      rcases btr_cases c (iv W i) k i.arg with ⟨e2, _⟩ | ⟨e2, h2, h3⟩
      · rw [e2] at h1 ⊢; exact h1
      · rw [e2] at h1 ⊢; exact h1.trans h3
theorem impr_keeps (W : It → Vl) (k : Int) {v : Vl} {k' g : Int} : ∀ (l : List Ins) (c : Cl), ¬ bett c v k' g → ¬ bett (impr W k l c) v k' g := fun l c h => by
  rcases impr_cases W k l c with e | ⟨h1, _⟩
  · rw [e]; exact h
  · exact bett_lower h1 h
theorem impr_done (W : It → Vl) (k : Int) : ∀ (l : List Ins) (c : Cl), ∀ i ∈ l, ¬ bett (impr W k l c) (iv W i) k i.arg
  | [], _, _, h => by simp at h
  | j :: l, c, i, h => by
    rw [impr_cons]
    rcases List.mem_cons.1 h with rfl | h
    · exact impr_keeps W k l _ (btr_not _ _ _ _)
    · exact impr_done W k l _ i h

/-- A number for the order of cells. -/
def crk (c : Cl) : Nat := ((c.v.c * 2199023255552 + c.v.s) * 64 + (c.r + 1)).toNat * 64 + c.a.toNat
/-- A cell of a span of a small grammar and a small lattice. -/
structure ClOk (c : Cl) : Prop where
  nrm : Nrm c.v
  inf : c.v.c = 1099511627776 → c = cnone
  r : -1 ≤ c.r ∧ c.r ≤ 60
  a : 0 ≤ c.a ∧ c.a ≤ 60
theorem ClOk.none : ClOk cnone := ⟨Nrm.top, fun _ => rfl, by simp [cnone], by simp [cnone]⟩
theorem crk_lt {a b : Cl} (ha : ClOk a) (hb : ClOk b) (h : clt a b) : crk a < crk b := by
  have h1 := ha.nrm.1
  have h2 := hb.nrm.1
  have h3 := ha.r
  have h4 := hb.r
  have h5 := ha.a
  have h6 := hb.a
  unfold Ordy at h1 h2
  unfold clt at h
  unfold crk
  omega
def crks (cs : List Cl) : Nat := (cs.map crk).sum
theorem crks_set : ∀ {cs : List Cl} {n : Nat} {a b : Cl}, cs[n]? = some a → crk b < crk a → crks (cs.set n b) < crks cs
  | [], _, _, _, h, _ => by simp at h
  | x :: cs, 0, a, b, h, hl => by
    simp at h
    subst h
    simp only [crks, List.set_cons_zero, List.map_cons, List.sum_cons]
    omega
  | x :: cs, n + 1, a, b, h, hl => by
    simp at h
    have ih := crks_set h hl
    simp only [crks, List.set_cons_succ, List.map_cons, List.sum_cons] at *
    omega

section
variable {R : List Rl} {L : List Ar} {s t N S : Nat} {C : It → Vl} {cs : List Cl}
theorem insts_arg (hst : s ≤ t) (ht : t ≤ 60) (hL : L.length ≤ 60) {r : Rl} {i : Ins} (hi : i ∈ insts L s t r) : 0 ≤ i.arg ∧ i.arg ≤ 60 := by
  unfold insts at hi
  split at hi
  · split at hi
    · simp at hi; subst hi; simp only; omega
    · simp at hi
  · split at hi
    · obtain ⟨k, a, ha, _, _, _, rfl⟩ := mem_arcs.1 hi
      have := (List.getElem?_eq_some_iff.1 ha).1
      simp only; omega
    · split at hi
      · simp at hi; subst hi; simp only; omega
      · obtain ⟨m, hm1, hm2, rfl⟩ := mem_splits.1 hi
        simp only; omega
theorem arcs_sorted (L : List Ar) (s t : Nat) (r : Rl) : (arcsOf L s t r).Pairwise fun i j => i.arg < j.arg := by
  unfold arcsOf
  rw [List.pairwise_filterMap]
  refine List.Pairwise.imp ?_ (List.pairwise_lt_range (n := L.length))
  intro a b hab i hi j hj
  have key : ∀ (k : Nat) (x : Ins), (match L[k]? with
      | some a => if a.fits s t r.a then some ⟨k, r.p + a.co, []⟩ else none
      | none => none : Option Ins) = some x → x.arg = k := by
    intro k x hx
    cases hk : L[k]? with
    | none => rw [hk] at hx; simp at hx
    | some y =>
      rw [hk] at hx
      simp only [Option.ite_none_right_eq_some, Option.some.injEq] at hx
      rw [← hx.2]
  rw [key a i hi, key b j hj]
  omega
theorem splits_sorted (s t : Nat) (r : Rl) : (splits s t r).Pairwise fun i j => i.arg < j.arg := by
  unfold splits
  rw [List.pairwise_map]
  refine List.Pairwise.imp ?_ (List.pairwise_lt_range (n := t + 1 - s))
  intro a b hab
  simp only
  omega
theorem insts_sorted (L : List Ar) (s t : Nat) (r : Rl) : (insts L s t r).Pairwise fun i j => i.arg < j.arg := by
  unfold insts
  split
  · split
    · simp
    · simp
  · split
    · exact arcs_sorted L s t r
    · split
      · simp
      · exact splits_sorted s t r
def ilt (x y : Nat × Ins) : Prop := x.1 < y.1 ∨ (x.1 = y.1 ∧ x.2.arg < y.2.arg)
theorem insH_sorted (R : List Rl) (L : List Ar) (s t h : Nat) : (insH R L s t h).Pairwise ilt := by
  have key : ∀ (k : Nat) (x : Nat × Ins), x ∈ (match R[k]? with
      | some r => if r.hd.toNat = h then (insts L s t r).map fun i => (k, i) else []
      | none => [] : List (Nat × Ins)) → x.1 = k := by
    intro k x hx
    cases hk : R[k]? with
    | none => rw [hk] at hx; simp at hx
    | some y =>
      rw [hk] at hx
      simp only at hx
      split at hx
      · obtain ⟨i, _, rfl⟩ := List.mem_map.1 hx
        rfl
      · simp at hx
  unfold insH
  rw [List.pairwise_flatMap]
  refine ⟨fun k _ => ?_, ?_⟩
  · cases hk : R[k]? with
    | none => simp
    | some r =>
      simp only
      split
      · rw [List.pairwise_map]
        exact List.Pairwise.imp (fun h => .inr ⟨rfl, h⟩) (insts_sorted L s t r)
      · simp
  · refine List.Pairwise.imp ?_ (List.pairwise_lt_range (n := R.length))
    intro a b hab x hx y hy
    rw [← key a x hx, ← key b y hy] at hab
    exact .inl hab
theorem find_first {α : Type} {p : α → Bool} {lt : α → α → Prop} {y : α} : ∀ {l : List α} {x : α}, l.Pairwise lt → l.find? p = some x → y ∈ l → p y = true → x = y ∨ lt x y
  | [], _, _, _, h, _ => by simp at h
  | a :: l, x, hp, hx, hy, hpy => by
    rw [List.find?_cons] at hx
    rw [List.pairwise_cons] at hp
    cases ha : p a with
    | true =>
      rw [ha] at hx
      simp at hx
      subst hx
      rcases List.mem_cons.1 hy with rfl | hy
      · exact .inl rfl
      · exact .inr (hp.1 y hy)
    | false =>
      rw [ha] at hx
      simp only at hx
      rcases List.mem_cons.1 hy with rfl | hy
      · rw [ha] at hpy; cases hpy
      · exact find_first hp.2 hx hy hpy

/-- What the passes keep. -/
structure FInv (R : List Rl) (L : List Ar) (s t N : Nat) (C : It → Vl) (cs : List Cl) : Prop where
  len : cs.length = N
  ok : ∀ c ∈ cs, ClOk c
  low : ∀ U, (∀ h, Nrm (U h)) → PreS R L s t C U → ∀ h, vle (U h) (vf cs h)
  src : ∀ h c, cs[h]? = some c → c.v.c < 1099511627776 → ∃ (k : Nat) (i : Ins), (k, i) ∈ insH R L s t h ∧ c.r = ((k : Nat) : Int) ∧ c.a = i.arg ∧ vle (iv (spv C s t (vf cs)) i) c.v
theorem vf_rep (N h : Nat) : vf (List.replicate N cnone) h = vtop := by
  unfold vf
  rw [List.getElem?_replicate]
  split <;> rfl
theorem FInv.start (R : List Rl) (L : List Ar) (s t N : Nat) (C : It → Vl) : FInv R L s t N C (List.replicate N cnone) := by
  refine ⟨by simp, fun c hc => ?_, fun U hU _ h => ?_, fun h c hc hf => ?_⟩
  · rw [(List.mem_replicate.1 hc).2]; exact ClOk.none
  · rw [vf_rep]; exact (hU h).le_top
  · rw [List.getElem?_replicate] at hc
    split at hc
    · simp at hc
      subst hc
      exact absurd hf (by decide)
    · simp at hc
theorem FInv.nv (h : FInv R L s t N C cs) (j : Nat) : Nrm (vf cs j) := by
  unfold vf
  cases hc : cs[j]? with
  | none => exact Nrm.top
  | some c => exact (h.ok c (List.mem_of_getElem? hc)).nrm
theorem vf_at {h : Nat} {c : Cl} (hc : cs[h]? = some c) : vf cs h = c.v := by unfold vf; rw [hc]; rfl
theorem vf_set {n : Nat} {c : Cl} (hn : n < cs.length) (j : Nat) : vf (cs.set n c) j = if j = n then c.v else vf cs j := by
  unfold vf
  rw [List.getElem?_set]
  by_cases e : n = j
  · subst e; simp [hn]
  · rw [if_neg e, if_neg (fun h => e h.symm)]
theorem spv_mono {U U' : Nat → Vl} (h : ∀ j, vle (U j) (U' j)) (x : It) : vle (spv C s t U x) (spv C s t U' x) := by
  unfold spv
  split
  · exact h _
  · exact vle.refl _
theorem FInv.put (hC : ∀ x, Nrm (C x)) (hR : ∀ r ∈ R, r.Ok N) (hL : ArsOk S L) (hst : s ≤ t) (ht : t ≤ 60) (hRl : R.length ≤ 60) (hLl : L.length ≤ 60) (h : FInv R L s t N C cs)
    {k : Nat} {r : Rl} {n : Nat} {c : Cl} (hr : R[k]? = some r) (hn : r.hd.toNat = n) (hc : cs[n]? = some c) (hne : impr (spv C s t (vf cs)) k (insts L s t r) c ≠ c) :
    FInv R L s t N C (cs.set n (impr (spv C s t (vf cs)) k (insts L s t r) c)) ∧ crks (cs.set n (impr (spv C s t (vf cs)) k (insts L s t r) c)) < crks cs := by
  have hrm := List.mem_of_getElem? hr
  have hk := (List.getElem?_eq_some_iff.1 hr).1
  have hnl := (List.getElem?_eq_some_iff.1 hc).1
  have hck := h.ok c (List.mem_of_getElem? hc)
  have hW : ∀ x, Nrm (spv C s t (vf cs) x) := spv_nrm hC h.nv
  rcases impr_cases (spv C s t (vf cs)) k (insts L s t r) c with e | ⟨hlt, i, hi, e, hf⟩
  · exact absurd e hne
  rw [e] at hlt ⊢
  have hp := insts_pr (hR r hrm) hL hi
  have ha := insts_arg hst ht hLl hi
  have hno : ClOk (⟨iv (spv C s t (vf cs)) i, (k : Int), i.arg⟩ : Cl) := ⟨iv_nrm hW hp.1, fun e => by simp only at e; omega, by simp only; omega, by simp only; omega⟩
  have hdown : ∀ j, vle (vf (cs.set n (⟨iv (spv C s t (vf cs)) i, (k : Int), i.arg⟩ : Cl)) j) (vf cs j) := fun j => by
    rw [vf_set hnl]
    split
    · rename_i e1
      subst e1
      rw [vf_at hc]
      unfold clt at hlt
      unfold vle
      simp only at hlt ⊢
      omega
    · exact vle.refl _
  have hnv' : ∀ j, Nrm (vf (cs.set n (⟨iv (spv C s t (vf cs)) i, (k : Int), i.arg⟩ : Cl)) j) := fun j => by
    rw [vf_set hnl]
    split
    · exact hno.nrm
    · exact h.nv j
  refine ⟨⟨by rw [List.length_set]; exact h.len, fun c' hc' => ?_, fun U hU hP j => ?_, fun j c' hc' hf' => ?_⟩, crks_set hc (crk_lt hno hck hlt)⟩
  · rcases List.mem_or_eq_of_mem_set hc' with h1 | rfl
    · exact h.ok c' h1
    · exact hno
  · rw [vf_set hnl]
    split
    · rename_i e1
      subst e1
      have h1 := hP r hrm i hi
      rw [hn] at h1
      exact h1.trans (iv_mono (spv_nrm hC hU) hW hp.1 fun x _ => spv_mono (h.low U hU hP) x)
    · exact h.low U hU hP j
  · have hmono : ∀ {k' : Nat} {i' : Ins} {h' : Nat}, (k', i') ∈ insH R L s t h' → vle (iv (spv C s t (vf (cs.set n (⟨iv (spv C s t (vf cs)) i, (k : Int), i.arg⟩ : Cl)))) i') (iv (spv C s t (vf cs)) i') := by
      intro k' i' h' hm
      obtain ⟨r', hr', _, hi'⟩ := mem_insH.1 hm
      exact iv_mono (spv_nrm hC hnv') hW (insts_pr (hR r' (List.mem_of_getElem? hr')) hL hi').1 fun x _ => spv_mono hdown x
    rw [List.getElem?_set] at hc'
    by_cases e1 : n = j
    · subst e1
      rw [if_pos rfl, if_pos hnl] at hc'
      injection hc' with hc'
      subst hc'
      have hm : (k, i) ∈ insH R L s t n := mem_insH.2 ⟨r, hr, hn, hi⟩
      exact ⟨k, i, hm, rfl, rfl, hmono hm⟩
    · rw [if_neg e1] at hc'
      obtain ⟨k', i', hm, h1, h2, h3⟩ := h.src j c' hc' hf'
      exact ⟨k', i', hm, h1, h2, (hmono hm).trans h3⟩
/-- The first k rules improve nothing. -/
def StaK (R : List Rl) (L : List Ar) (s t : Nat) (C : It → Vl) (cs : List Cl) (k : Nat) : Prop := ∀ j r c, j < k → R[j]? = some r → cs[r.hd.toNat]? = some c → ∀ i ∈ insts L s t r, ¬ bett c (iv (spv C s t (vf cs)) i) j i.arg
theorem StaK.zero : StaK R L s t C cs 0 := fun _ _ _ h => by omega
theorem StaK.next {k : Nat} {r : Rl} {c : Cl} (h : StaK R L s t C cs k) (hr : R[k]? = some r) (hc : cs[r.hd.toNat]? = some c) (he : impr (spv C s t (vf cs)) k (insts L s t r) c = c) : StaK R L s t C cs (k + 1) := fun j r' c' hj hr' hc' i hi => by
  by_cases hjk : j = k
  · subst hjk
    rw [hr] at hr'
    injection hr' with hr'
    subst hr'
    rw [hc] at hc'
    injection hc' with hc'
    subst hc'
    have := impr_done (spv C s t (vf cs)) j (insts L s t r) c i hi
    rw [he] at this
    exact this
  · exact h j r' c' (by omega) hr' hc' i hi
/-- Where no rule improves anything, the cells are those of the least values. -/
theorem FInv.done (hC : ∀ x, Nrm (C x)) (hR : ∀ r ∈ R, r.Ok N) (hL : ArsOk S L) (h : FInv R L s t N C cs) (hs : StaK R L s t C cs R.length) :
    SSol R L s t C (vf cs) ∧ ∀ j < N, cs[j]? = some (cel R L s t C (vf cs) j) := by
  have hW : ∀ x, Nrm (spv C s t (vf cs) x) := spv_nrm hC h.nv
  have hpre : PreS R L s t C (vf cs) := fun r hr i hi => by
    obtain ⟨k, hk⟩ := List.getElem?_of_mem hr
    have hhd := (hR r hr).hd
    have hl : r.hd.toNat < cs.length := by rw [h.len]; omega
    have hc := List.getElem?_eq_getElem hl
    have hn := hs k r _ (List.getElem?_eq_some_iff.1 hk).1 hk hc i hi
    have hiv := iv_nrm hW (insts_pr (hR r hr) hL hi).1
    have hcn := (h.ok _ (List.mem_of_getElem? hc)).nrm
    rw [vf_at hc]
    by_cases hf : (iv (spv C s t (vf cs)) i).c < 1099511627776
    · unfold bett at hn
      unfold vle
      omega
    · rw [hiv.eq_top (by omega)]
      exact hcn.le_top
  refine ⟨⟨h.nv, hpre, h.low⟩, fun j hj => ?_⟩
  have hl : j < cs.length := by rw [h.len]; exact hj
  have hc := List.getElem?_eq_getElem hl
  obtain ⟨c, hcc⟩ : ∃ c, cs[j] = c := ⟨_, rfl⟩
  rw [hcc] at hc
  rw [hc]
  have hck := h.ok c (List.mem_of_getElem? hc)
  have hv := vf_at hc
  unfold cel
  rw [hv]
  by_cases hf : c.v.c < 1099511627776
  · rw [if_pos hf]
    obtain ⟨k0, i0, hm0, hr0, ha0, hle0⟩ := h.src j c hc hf
    obtain ⟨r0, hR0, hh0, hi0⟩ := mem_insH.1 hm0
    have hge0 := hpre r0 (List.mem_of_getElem? hR0) i0 hi0
    rw [hh0, hv] at hge0
    have hat0 : atts C s t (vf cs) j (k0, i0) = true := atts_iff.2 ((hle0.antisymm hge0).trans hv.symm)
    cases hfd : (insH R L s t j).find? (atts C s t (vf cs) j) with
    | none =>
      have := List.find?_eq_none.1 hfd (k0, i0) hm0
      exact absurd hat0 this
    | some x =>
      obtain ⟨k, i⟩ := x
      have hat := List.find?_some hfd
      have hxm := List.mem_of_find?_eq_some hfd
      obtain ⟨r, hRk, hh, hi⟩ := mem_insH.1 hxm
      have hsame := find_first (insH_sorted R L s t j) hfd hm0 hat0
      have hivx := atts_iff.1 hat
      simp only at hivx
      rw [hv] at hivx
      rcases hsame with e | hlt
      · injection e with e1 e2
        subst e1 e2
        simp only
        obtain ⟨cv, cr, ca⟩ := c
        simp only at hr0 ha0
        rw [hr0, ha0]
      · exfalso
        have hb := hs k r c (List.getElem?_eq_some_iff.1 hRk).1 hRk (by rw [hh]; exact hc) i hi
        apply hb
        unfold bett
        rw [hivx]
        unfold ilt at hlt
        simp only at hlt
        refine ⟨hf, .inr ⟨⟨rfl, rfl⟩, ?_⟩⟩
        omega
  · rw [if_neg hf, hck.inf (by have := hck.nrm.1.2.1; omega)]
/-- What a pass keeps: whether something has changed. -/
def PasS (b : Bool) (R : List Rl) (L : List Ar) (s t : Nat) (C : It → Vl) (cs0 cs : List Cl) (k : Nat) : Prop := (b = false → cs = cs0 ∧ StaK R L s t C cs k) ∧ (b = true → crks cs < crks cs0)
def PasE (b : Bool) (R : List Rl) (L : List Ar) (s t : Nat) (C : It → Vl) (cs : List Cl) : Prop := b = false → StaK R L s t C cs R.length
end
end Go.Proofs.YthakcefgbggkcaaDoor
