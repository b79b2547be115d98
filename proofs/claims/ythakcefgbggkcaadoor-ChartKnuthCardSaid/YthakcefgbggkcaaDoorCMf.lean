/- All instances; the callbacks; choose. -/
import Derived.Test.YthakcefgbggkcaaDoorCMu
import Derived.Test.YthakcefgbggkcaaDoorCMv
import Derived.Test.YthakcefgbggkcaaDoorCMw
namespace Go.Proofs.YthakcefgbggkcaaDoor
open Go.RowKit

/-- The instances at the ends of a span. -/
def bnd (L : List Ar) (s t : Nat) (r : Rl) : List Ins := if r.k = 4 then [splitAt s t r s, splitAt s t r t] else insts L s t r
section
variable {a : SP} {fid : Nat} {caps : Array Value} {I : List Ins → (Nat → Prop) → World → Prop} {Fin : (Nat → Prop) → World → Prop}
theorem ins_any (w : World) (r : Rl) (F : Nat → Prop) (ok : a.Ok) (hr : r.Ok a.N) (hcb : Cbk a (insts a.L a.s a.t r) fid caps I Fin) (hI : I [] F w) :
    Calls Tryd.prog 45 #[.pointer (some ⟨a.sp, 0, none⟩), r.val, .func (.func fid) #[] caps] w (InsPost a (insts a.L a.s a.t r) I Fin F w) := by
  rcases hr.k with (h | h) | h | h
  · exact ins_empty w r F ok h hcb hI
  · exact ins_term w r F ok hr h hcb hI
  · exact ins_unary w r F ok h.1 hcb hI
  · exact ins_binary w r F ok h.1 hcb hI
end
end Go.Proofs.YthakcefgbggkcaaDoor

namespace Go.Proofs.YthakcefgbggkcaaDoor

section
variable {R : List Rl} {L : List Ar} {s t N S : Nat} {C : It → Vl} {V : List Vl} {B : List Bool} {M v : Vl} {j k h : Nat} {d : List Ins} {r : Rl} {i : Ins}
theorem offV_or (V : List Vl) (B : List Bool) (h : Nat) (v : Vl) : offV V B h v = V ∨ (offV V B h v = V.set h v ∧ B[h]? = some false ∧ v.c < 1099511627776 ∧ vlt v.c v.s (gv V h).c (gv V h).s = true) := by
  unfold offV
  split
  · rename_i h; exact .inr ⟨rfl, h.1, h.2.1, h.2.2⟩
  · exact .inl rfl
theorem vle_of_vlt {a b : Vl} (h : vlt a.c a.s b.c b.s = true) : vle a b := by rw [vlt_iff] at h; unfold vle; omega
theorem vle_of_not {a b : Vl} (h : ¬ vlt a.c a.s b.c b.s = true) : vle b a := by rw [vlt_iff] at h; unfold vle; omega
theorem offV_len : (offV V B h v).length = V.length := by
  rcases offV_or V B h v with e | ⟨e, _⟩
  · rw [e]
  · rw [e, List.length_set]
theorem offV_at (hl : B.length = V.length) (x : Nat) : gv (offV V B h v) x = gv V x ∨ (x = h ∧ gv (offV V B h v) x = v ∧ B[h]? = some false ∧ v.c < 1099511627776 ∧ vlt v.c v.s (gv V h).c (gv V h).s = true) := by
  rcases offV_or V B h v with e | ⟨e, h1, h2, h3⟩
  · left; rw [e]
  · rw [e, gv_set (by have := (List.getElem?_eq_some_iff.1 h1).1; omega)]
    by_cases hx : x = h
    · right; rw [if_pos hx]; exact ⟨hx, rfl, h1, h2, h3⟩
    · left; rw [if_neg hx]
theorem offV_le (hl : B.length = V.length) (x : Nat) : vle (gv (offV V B h v) x) (gv V x) := by
  rcases offV_at (h := h) (v := v) hl x with e | ⟨e1, e2, _, _, e3⟩
  · rw [e]; exact vle.refl _
  · rw [e2, e1]; exact vle_of_vlt e3
theorem offV_fin (hl : B.length = V.length) {x : Nat} (hx : B[x]? = some true) : gv (offV V B h v) x = gv V x := by
  rcases offV_at (h := h) (v := v) hl x with e | ⟨e1, _, e2, _⟩
  · exact e
  · rw [e1, e2] at hx; simp at hx
theorem offV_nrm (hl : B.length = V.length) (hV : ∀ i, Nrm (gv V i)) (hv : Nrm v) (x : Nat) : Nrm (gv (offV V B h v) x) := by
  rcases offV_at (h := h) (v := v) hl x with e | ⟨_, e, _⟩
  · rw [e]; exact hV x
  · rw [e]; exact hv
theorem offV_cov (hl : B.length = V.length) (hV : ∀ i, Nrm (gv V i)) (hv : Nrm v) (hB : B[h]? = some false) : vle (gv (offV V B h v) h) v := by
  by_cases h1 : v.c < 1099511627776
  · by_cases h2 : vlt v.c v.s (gv V h).c (gv V h).s = true
    · rw [offV_yes hB h1 h2, gv_set (by have := (List.getElem?_eq_some_iff.1 hB).1; omega), if_pos rfl]
      exact vle.refl _
    · rw [offV_no (fun e => h2 e.2.2)]
      exact vle_of_not h2
  · rw [hv.eq_top (by omega)]
    exact (offV_nrm hl hV Nrm.top h).le_top

def UseOwn (s t : Nat) (i : Ins) (j : Nat) : Prop := ∃ x ∈ i.us, x.own s t = true ∧ x.h.toNat = j
def AllFin (s t : Nat) (B : List Bool) (i : Ins) : Prop := ∀ x ∈ i.us, x.own s t = true → B[x.h.toNat]? = some true
def NoOwn (s t : Nat) (i : Ins) : Prop := ∀ x ∈ i.us, x.own s t = false
def WV (C : It → Vl) (s t : Nat) (V : List Vl) : It → Vl := spv C s t (gv V)
def Low (R : List Rl) (L : List Ar) (s t : Nat) (C : It → Vl) (V : List Vl) : Prop := ∀ U, (∀ h, Nrm (U h)) → PreS R L s t C U → ∀ h, vle (U h) (gv V h)
/-- What is fixed. -/
structure Fx (R : List Rl) (L : List Ar) (S N s t : Nat) (C : It → Vl) : Prop where
  R : ∀ r ∈ R, r.Ok N
  L : ArsOk S L
  C : ∀ x, Nrm (C x)
  st : s ≤ t
theorem WV_nrm (hC : ∀ x, Nrm (C x)) (hV : ∀ i, Nrm (gv V i)) (x : It) : Nrm (WV C s t V x) := spv_nrm hC hV x
theorem WV_fin {V' : List Vl} (hf : ∀ x : Nat, B[x]? = some true → gv V' x = gv V x) (ha : AllFin s t B i) : iv (WV C s t V') i = iv (WV C s t V) i :=
  iv_congr fun x hx => by
    unfold WV spv
    cases ho : x.own s t with
    | false => rfl
    | true => simp only [if_true]; exact hf _ (ha x hx ho)
theorem Low.offer (h0 : Low R L s t C V) (hl : B.length = V.length) (hf : Fx R L S N s t C) (hV : ∀ i, Nrm (gv V i)) (hr : r ∈ R) (hi : i ∈ insts L s t r) : Low R L s t C (offV V B r.hd.toNat (iv (WV C s t V) i)) := fun U hU hp x => by
  rcases offV_at (h := r.hd.toNat) (v := iv (WV C s t V) i) hl x with e | ⟨e1, e2, _⟩
  · rw [e]; exact h0 U hU hp x
  · rw [e2, e1]
    refine (hp r hr i hi).trans (iv_mono (spv_nrm hf.C hU) (WV_nrm hf.C hV) (insts_pr (hf.R r hr) hf.L hi).1 fun x hx => ?_)
    unfold WV spv
    split
    · exact h0 U hU hp _
    · exact vle.refl _

/-- The first phase: the instances that use no item of the span. -/
structure S1 (R : List Rl) (L : List Ar) (N s t : Nat) (C : It → Vl) (V : List Vl) (k : Nat) (d : List Ins) : Prop where
  lV : V.length = N
  nV : ∀ i, Nrm (gv V i)
  low : Low R L s t C V
  cov : ∀ k' r i, R[k']? = some r → i ∈ insts L s t r → NoOwn s t i → (k' < k ∨ (k' = k ∧ i ∈ d)) → vle (gv V r.hd.toNat) (iv (WV C s t V) i)
theorem S1.start (R : List Rl) (L : List Ar) (N s t : Nat) (C : It → Vl) : S1 R L N s t C (List.replicate N vtop) 0 [] := by
  have e : ∀ i, gv (List.replicate N vtop) i = vtop := fun i => by
    unfold gv
    rw [List.getElem?_replicate]
    split <;> rfl
  exact ⟨by simp, fun i => by rw [e]; exact Nrm.top, fun U hU _ h => by rw [e]; exact (hU h).le_top, fun k' r i _ _ _ h => by rcases h with h | ⟨_, h⟩; omega; simp at h⟩
theorem noOwn_same {V' : List Vl} (h : NoOwn s t i) : iv (WV C s t V') i = iv (WV C s t V) i :=
  iv_congr fun x hx => by unfold WV spv; rw [h x hx]; rfl
theorem S1.offer (h : S1 R L N s t C V k d) (hf : Fx R L S N s t C) (hl : B.length = N) (hB : ∀ x < N, B[x]? = some false) (hr : R[k]? = some r) (hi : i ∈ insts L s t r) (hn : NoOwn s t i) : S1 R L N s t C (offV V B r.hd.toNat (iv (WV C s t V) i)) k (d ++ [i]) := by
  have hrR := List.mem_of_getElem? hr
  have hBV : B.length = V.length := by rw [hl, h.lV]
  have hvn := iv_nrm (i := i) (WV_nrm hf.C h.nV (s := s) (t := t)) (insts_pr (hf.R r hrR) hf.L hi).1
  have hhd := (hf.R r hrR).hd
  refine ⟨by rw [offV_len]; exact h.lV, offV_nrm hBV h.nV hvn, h.low.offer hBV hf h.nV hrR hi, fun k' r' i' hr' hi' hn' hc => ?_⟩
  rw [noOwn_same (V := V) hn']
  rcases hc with hc | ⟨rfl, hc⟩
  · exact (offV_le hBV _).trans (h.cov k' r' i' hr' hi' hn' (.inl hc))
  · rcases List.mem_append.1 hc with hc | hc
    · exact (offV_le hBV _).trans (h.cov k' r' i' hr' hi' hn' (.inr ⟨rfl, hc⟩))
    · simp at hc
      subst hc
      rw [hr] at hr'
      injection hr' with hr'
      subst hr'
      exact offV_cov hBV h.nV hvn (hB _ (by omega))
theorem S1.skip (h : S1 R L N s t C V k d) (hn : ¬ NoOwn s t i) : S1 R L N s t C V k (d ++ [i]) :=
  ⟨h.lV, h.nV, h.low, fun k' r' i' hr' hi' hn' hc => h.cov k' r' i' hr' hi' hn' (by
    rcases hc with hc | ⟨hc1, hc⟩
    · exact .inl hc
    · rcases List.mem_append.1 hc with hc | hc
      · exact .inr ⟨hc1, hc⟩
      · simp at hc; subst hc; exact absurd hn' hn)⟩
theorem S1.next (h : S1 R L N s t C V k (insts L s t r)) (hr : R[k]? = some r) : S1 R L N s t C V (k + 1) [] :=
  ⟨h.lV, h.nV, h.low, fun k' r' i' hr' hi' hn' hc => h.cov k' r' i' hr' hi' hn' (by
    rcases hc with hc | ⟨_, hc⟩
    · rcases Nat.lt_or_ge k' k with h1 | h1
      · exact .inl h1
      · have : k' = k := by omega
        subst this
        rw [hr] at hr'
        injection hr' with hr'
        subst hr'
        exact .inr ⟨rfl, hi'⟩
    · simp at hc)⟩
/-- The second phase, between two rounds. -/
structure S2 (R : List Rl) (L : List Ar) (N s t : Nat) (C : It → Vl) (V : List Vl) (B : List Bool) (M : Vl) : Prop where
  lV : V.length = N
  lB : B.length = N
  nV : ∀ i, Nrm (gv V i)
  low : Low R L s t C V
  fm : ∀ i, B[i]? = some true → vle (gv V i) M
  qm : ∀ i, B[i]? ≠ some true → vle M (gv V i)
  cov : ∀ r ∈ R, ∀ i ∈ insts L s t r, AllFin s t B i → vle (gv V r.hd.toNat) (iv (WV C s t V) i)
theorem S1.done (h : S1 R L N s t C V k []) (hk : R.length ≤ k) : S2 R L N s t C V (List.replicate N false) ⟨0, 0⟩ :=
  ⟨h.lV, by simp, h.nV, h.low, fun i hi => by rw [List.getElem?_replicate] at hi; split at hi <;> simp at hi,
    fun i _ => by have := (h.nV i).1; unfold Ordy at this; unfold vle; simp only; omega,
    fun r hr i hi ha => by
      obtain ⟨k', hk'⟩ := List.getElem?_of_mem hr
      have hlt := (List.getElem?_eq_some_iff.1 hk').1
      refine h.cov k' r i hk' hi (fun x hx => ?_) (.inl (by omega))
      cases ho : x.own s t with
      | false => rfl
      | true =>
        have := ha x hx ho
        rw [List.getElem?_replicate] at this
        split at this <;> simp at this⟩
/-- The second phase, while the items that use j are looked at. -/
structure S3 (R : List Rl) (L : List Ar) (N s t : Nat) (C : It → Vl) (V : List Vl) (B : List Bool) (j k : Nat) (d : List Ins) : Prop where
  lV : V.length = N
  lB : B.length = N
  nV : ∀ i, Nrm (gv V i)
  low : Low R L s t C V
  jt : B[j]? = some true
  fm : ∀ i, B[i]? = some true → vle (gv V i) (gv V j)
  qm : ∀ i, B[i]? ≠ some true → vle (gv V j) (gv V i)
  cov : ∀ k' r i, R[k']? = some r → i ∈ insts L s t r → (UseOwn s t i j → k' < k ∨ (k' = k ∧ i ∈ d)) → AllFin s t B i → vle (gv V r.hd.toNat) (iv (WV C s t V) i)
theorem S2.pop (h : S2 R L N s t C V B M) (hj : j < N) (hB : B[j]? = some false) (hm : ∀ i, B[i]? ≠ some true → vle (gv V j) (gv V i)) : S3 R L N s t C V (B.set j true) j 0 [] := by
  have hjB : j < B.length := by have := h.lB; omega
  have hset : ∀ i, (B.set j true)[i]? = if j = i then some true else B[i]? := fun i => by
    rw [List.getElem?_set]
    by_cases e : j = i
    · subst e; simp [hjB]
    · simp [e]
  refine ⟨h.lV, by rw [List.length_set]; exact h.lB, h.nV, h.low, by rw [hset, if_pos rfl], fun i hi => ?_, fun i hi => ?_, fun k' r i hr hi hu ha => ?_⟩
  · rw [hset] at hi
    by_cases e : j = i
    · rw [e]; exact vle.refl _
    · rw [if_neg e] at hi
      exact (h.fm i hi).trans (h.qm j (by rw [hB]; simp))
  · rw [hset] at hi
    by_cases e : j = i
    · rw [if_pos e] at hi; exact absurd rfl hi
    · rw [if_neg e] at hi; exact hm i hi
  · have hno : ¬ UseOwn s t i j := fun hu' => by rcases hu hu' with h1 | ⟨_, h1⟩; omega; simp at h1
    refine h.cov r (List.mem_of_getElem? hr) i hi fun x hx ho => ?_
    have := ha x hx ho
    rw [hset, if_neg (fun e => hno ⟨x, hx, ho, e.symm⟩)] at this
    exact this
theorem S3.offer (h : S3 R L N s t C V B j k d) (hf : Fx R L S N s t C) (hr : R[k]? = some r) (hi : i ∈ insts L s t r) (ha : AllFin s t B i) : S3 R L N s t C (offV V B r.hd.toNat (iv (WV C s t V) i)) B j k (d ++ [i]) := by
  have hrR := List.mem_of_getElem? hr
  have hBV : B.length = V.length := by rw [h.lB, h.lV]
  have hp0 := (insts_pr (hf.R r hrR) hf.L hi).1
  have hvn := iv_nrm (i := i) (WV_nrm hf.C h.nV (s := s) (t := t)) hp0
  have hhd := (hf.R r hrR).hd
  have hsame : ∀ x : Nat, B[x]? = some true → gv (offV V B r.hd.toNat (iv (WV C s t V) i)) x = gv V x := fun x hx => offV_fin hBV hx
  have hM : UseOwn s t i j → vle (gv V j) (iv (WV C s t V) i) := fun ⟨x, hx, ho, hxj⟩ => by
    have := iv_sup (WV_nrm hf.C h.nV (s := s) (t := t)) hp0 hx
    have e : WV C s t V x = gv V j := by unfold WV spv; rw [ho, hxj]; rfl
    rwa [e] at this
  have hM2 : ∀ h1 : vlt (iv (WV C s t V) i).c (iv (WV C s t V) i).s (gv V r.hd.toNat).c (gv V r.hd.toNat).s = true, vle (gv V j) (iv (WV C s t V) i) := fun h1 => by
    by_cases hu : UseOwn s t i j
    · exact hM hu
    · have h2 := h.cov k r i hr hi (fun hu' => absurd hu' hu) ha
      have h3 := vle_of_vlt h1
      rw [vlt_iff] at h1
      unfold vle at h2
      omega
  refine ⟨by rw [offV_len]; exact h.lV, h.lB, offV_nrm hBV h.nV hvn, h.low.offer hBV hf h.nV hrR hi, h.jt, fun x hx => ?_, fun x hx => ?_, fun k' r' i' hr' hi' hu ha' => ?_⟩
  · rw [hsame x hx, hsame j h.jt]; exact h.fm x hx
  · rw [hsame j h.jt]
    rcases offV_at (h := r.hd.toNat) (v := iv (WV C s t V) i) hBV x with e | ⟨e1, e2, _, _, e3⟩
    · rw [e]; exact h.qm x hx
    · rw [e2]; exact hM2 e3
  · rw [WV_fin hsame ha']
    by_cases hcase : UseOwn s t i' j → k' < k ∨ (k' = k ∧ i' ∈ d)
    · exact (offV_le hBV _).trans (h.cov k' r' i' hr' hi' hcase ha')
    · have hu' : UseOwn s t i' j := Classical.byContradiction fun hn => hcase fun h1 => absurd h1 hn
      have hnc : ¬ (k' < k ∨ (k' = k ∧ i' ∈ d)) := fun h1 => hcase fun _ => h1
      rcases hu hu' with h1 | ⟨h1, h2⟩
      · exact absurd (.inl h1) hnc
      · rcases List.mem_append.1 h2 with h2 | h2
        · exact absurd (.inr ⟨h1, h2⟩) hnc
        · simp at h2
          subst h1 h2
          rw [hr] at hr'
          injection hr' with hr'
          subst hr'
          cases hbh : B[r.hd.toNat]? with
          | none => have := List.getElem?_eq_none_iff.1 hbh; have := h.lB; omega
          | some b =>
            cases b with
            | false => exact offV_cov hBV h.nV hvn hbh
            | true => rw [hsame _ hbh]; exact (h.fm _ hbh).trans (hM hu')
theorem S3.skip (h : S3 R L N s t C V B j k d) (hn : ¬ (UseOwn s t i j ∧ AllFin s t B i)) : S3 R L N s t C V B j k (d ++ [i]) :=
  ⟨h.lV, h.lB, h.nV, h.low, h.jt, h.fm, h.qm, fun k' r' i' hr' hi' hu ha => h.cov k' r' i' hr' hi' (fun hu' => by
    rcases hu hu' with h1 | ⟨h1, h2⟩
    · exact .inl h1
    · rcases List.mem_append.1 h2 with h2 | h2
      · exact .inr ⟨h1, h2⟩
      · simp at h2; subst h2; exact absurd ⟨hu', ha⟩ hn) ha⟩
/-- A rule has a nonterminal in its body. -/
def usesB (r : Rl) (j : Nat) : Bool := (decide (r.k = 3) && decide (r.a = j)) || (decide (r.k = 4) && (decide (r.a = j) || decide (r.b = j)))
theorem use_bnd (hr : r.Ok N) (hi : i ∈ insts L s t r) (hu : UseOwn s t i j) : usesB r j = true ∧ i ∈ bnd L s t r := by
  obtain ⟨x, hx, ho, hxj⟩ := hu
  rw [own_iff] at ho
  rcases hr.k with (h | h) | h | h
  · unfold insts at hi
    rw [if_pos h] at hi
    split at hi
    · simp at hi; subst hi; simp at hx
    · simp at hi
  · unfold insts at hi
    rw [if_neg (by omega), if_pos h] at hi
    obtain ⟨k, a, _, _, _, _, rfl⟩ := mem_arcs.1 hi
    simp at hx
  · have hi' := hi
    unfold insts at hi
    rw [if_neg (by omega), if_neg (by omega), if_pos h.1] at hi
    simp at hi
    subst hi
    simp at hx
    subst hx
    refine ⟨?_, by unfold bnd; rw [if_neg (by omega)]; exact hi'⟩
    simp only [usesB, h.1, decide_true, Bool.true_and, Bool.or_eq_true, decide_eq_true_eq]
    left
    simp only at hxj
    omega
  · rw [insts_bin h.1] at hi
    obtain ⟨m, h1, h2, rfl⟩ := mem_splits.1 hi
    unfold bnd
    rw [if_pos h.1]
    simp at hx
    rcases hx with rfl | rfl
    · simp only at ho hxj
      have : m = t := by omega
      subst this
      refine ⟨?_, by simp [splitAt]⟩
      simp only [usesB, h.1, decide_true, Bool.true_and, Bool.or_eq_true, decide_eq_true_eq]
      right; left; omega
    · simp only at ho hxj
      have : m = s := by omega
      subst this
      refine ⟨?_, by simp [splitAt]⟩
      simp only [usesB, h.1, decide_true, Bool.true_and, Bool.or_eq_true, decide_eq_true_eq]
      right; right; omega
theorem S3.next (h : S3 R L N s t C V B j k d) (hf : Fx R L S N s t C) (hr : R[k]? = some r) (hd : usesB r j = true → d = bnd L s t r) : S3 R L N s t C V B j (k + 1) [] :=
  ⟨h.lV, h.lB, h.nV, h.low, h.jt, h.fm, h.qm, fun k' r' i' hr' hi' hu ha => h.cov k' r' i' hr' hi' (fun hu' => by
    rcases hu hu' with h1 | ⟨_, h1⟩
    · rcases Nat.lt_or_ge k' k with h2 | h2
      · exact .inl h2
      · have : k' = k := by omega
        subst this
        rw [hr] at hr'
        injection hr' with hr'
        subst hr'
        obtain ⟨u1, u2⟩ := use_bnd (hf.R r (List.mem_of_getElem? hr)) hi' hu'
        exact .inr ⟨rfl, by rw [hd u1]; exact u2⟩
    · simp at h1) ha⟩
theorem S3.done (h : S3 R L N s t C V B j k []) (hk : R.length ≤ k) : S2 R L N s t C V B (gv V j) :=
  ⟨h.lV, h.lB, h.nV, h.low, h.fm, h.qm, fun r hr i hi ha => by
    obtain ⟨k', hk'⟩ := List.getElem?_of_mem hr
    have := (List.getElem?_eq_some_iff.1 hk').1
    exact h.cov k' r i hk' hi (fun _ => .inl (by omega)) ha⟩
/-- When nothing is left the values are the least ones. -/
theorem S2.sol (h : S2 R L N s t C V B M) (hf : Fx R L S N s t C) (hno : ∀ i, B[i]? ≠ some true → gv V i = vtop) : SSol R L s t C (gv V) := by
  refine ⟨h.nV, fun r hr i hi => ?_, h.low⟩
  have hp0 := (insts_pr (hf.R r hr) hf.L hi).1
  by_cases ha : AllFin s t B i
  · exact h.cov r hr i hi ha
  · obtain ⟨x, hx, ho, hb⟩ : ∃ x ∈ i.us, x.own s t = true ∧ B[x.h.toNat]? ≠ some true := by
      apply Classical.byContradiction
      intro hn
      exact ha fun x hx ho => Classical.byContradiction fun hb => hn ⟨x, hx, ho, hb⟩
    have e : WV C s t V x = vtop := by unfold WV spv; rw [ho]; exact hno _ hb
    have h1 : ¬ (iv (WV C s t V) i).c < 1099511627776 := fun hl => by
      have := iv_fin (WV_nrm hf.C h.nV (s := s) (t := t)) hp0 hl hx
      rw [e] at this
      exact absurd this (by decide)
    have hn := iv_nrm (i := i) (WV_nrm hf.C h.nV (s := s) (t := t)) hp0
    have : iv (spv C s t (gv V)) i = vtop := hn.eq_top (by omega)
    rw [this]
    exact (h.nV _).le_top
end
end Go.Proofs.YthakcefgbggkcaaDoor

namespace Go.Proofs.YthakcefgbggkcaaDoor
open Go.RowKit

def Rl.arr (r : Rl) : Array Value := #[.int .i64 r.k, .int .i64 r.hd, .int .i64 r.a, .int .i64 r.b, .int .i64 r.p, .int .i64 r.o]
theorem ST.lt {w : World} {a : SP} {F : Nat → Prop} {V : List Vl} {B : List Bool} {m : Nat} (h : ST w a F V B m) : (∀ k, F k → a.base ≤ k ∧ k < w.heap.size) ∧ (a.bb < w.heap.size ∧ a.fb < w.heap.size ∧ a.hb < w.heap.size) ∧ (¬ F a.sp ∧ a.sp ≠ a.bb ∧ a.sp ≠ a.fb ∧ a.sp ≠ a.hb) := by
  obtain ⟨H, Q, nx, ck, h1, _⟩ := h
  obtain ⟨e1, e2, e3, _⟩ := h1.nes
  exact ⟨h1.hQ.2, ⟨h1.kV.1.lt, h1.kB.1.lt, h1.kH.1.lt⟩, h1.nS, e1, e2, e3⟩
theorem ST.cb {w : World} {a : SP} {F : Nat → Prop} {V : List Vl} {B : List Bool} {m : Nat} (h : ST w a F V B m) : w.cell? ⟨a.cb, 0, none⟩ = some (.pointer (some ⟨a.sp, 0, none⟩)) := by
  obtain ⟨H, Q, nx, ck, h1, _⟩ := h
  exact h1.kC.1.cell 0
/-- A block of the caller's that the span's functions leave alone. -/
def Mine (a : SP) (F : Nat → Prop) (g : Nat) : Prop := ¬ F g ∧ g ≠ a.bb ∧ g ≠ a.fb ∧ g ≠ a.hb
theorem Mine.stp {a : SP} {F G : Nat → Prop} {w w' : World} {g : Nat} (h : Mine a F g) (hs : Stp a w F w' G) (hg : g < w.heap.size) : Mine a G g :=
  ⟨fun hG => by rcases hs.new g hG with h1 | h1; exact h.1 h1; omega, h.2⟩
theorem fx_of {a : SP} (ok : a.Ok) : Fx a.R a.L a.S a.N a.s a.t a.C := ⟨ok.R, ok.L, ok.C, ok.st⟩

/-- What holds behind the instances d of rule number k. -/
def I1 (a : SP) (k : Nat) (r : Rl) (br m0 : Nat) (d : List Ins) (F : Nat → Prop) (w : World) : Prop :=
  ∃ V m, ST w a F V (List.replicate a.N false) m ∧ S1 a.R a.L a.N a.s a.t a.C V k d ∧ m ≤ m0 + d.length ∧ Blk w br 65 r.arr ∧ Mine a F br
theorem I1.below {a : SP} {k : Nat} {r : Rl} {br m0 : Nat} {d : List Ins} {F : Nat → Prop} {w w' : World} (h : I1 a k r br m0 d F w) (hb : Below w.heap.size w w') (hg : 0 < a.base) : I1 a k r br m0 d F w' := by
  obtain ⟨V, m, h1, h2, h3, h4, h5⟩ := h
  exact ⟨V, m, h1.below hb hg, h2, h3, h4.below hb h4.lt, h5⟩
theorem noOwn_iff {s t : Nat} {i : Ins} {p : It → Bool} (hp : ∀ x, p x = x.own s t) : (i.us.any p = false ↔ NoOwn s t i) := by
  rw [List.any_eq_false]
  unfold NoOwn
  constructor
  · intro h x hx
    have := h x hx
    rw [hp] at this
    simpa using this
  · intro h x hx
    rw [hp, h x hx]
    simp

set_option maxRecDepth 100000 in
set_option maxHeartbeats 4000000 in
theorem cb1_call (a : SP) (ok : a.Ok) (k : Nat) (r : Rl) (br m0 : Nat) (hr : a.R[k]? = some r) (d : List Ins) (i : Ins) (F : Nat → Prop) (w : World) (A : Option Addr) (c : Nat) (hm : m0 + d.length < 99999998) (hi : i ∈ insts a.L a.s a.t r) (hI : I1 a k r br m0 d F w) (hU : Reads w w.heap.size 3 A i.us.length (its i.us)) :
    Calls Tryd.prog 46 (#[.int .i64 i.arg, .int .i64 i.pr, .slice A i.us.length c] ++ #[.pointer (some ⟨a.cb, 0, none⟩), .pointer (some ⟨br, 0, none⟩)]) w (CbPost a (I1 a k r br m0) (fun _ _ => False) d i F w) := by
  have hrR := List.mem_of_getElem? hr
  have hrok := ok.R r hrR
  have hpr := insts_pr hrok ok.L hi
  have hus2 := insts_len hi
  have hin := fun x hx => (insts_in hrok ok.st hi (x := x) hx).1
  have hI0 := hI
  obtain ⟨V, m, hST, hS1, hmm, hK, hM⟩ := hI
  obtain ⟨j, hj⟩ := Int.eq_ofNat_of_zero_le hrok.hd.1
  have hjN : j < a.N := by have := hrok.hd.2; omega
  have hln := hU
  have HST := Lib.hid hST
  have HS1 := Lib.hid hS1
  have HK := Lib.hid hK
  have HM := Lib.hid hM
  have HOK := Lib.hid ok
  have HU := Lib.hid hU
  have HI0 := Lib.hid hI0
  have HIN := Lib.hid hin
  have HI := Lib.hid hi
  have HR := Lib.hid hr
  have HJ := Lib.hid hj
  have cb0 := hST.cb
  obtain ⟨arg, pr, us⟩ := i
  simp only at hpr hus2 HU ⊢
  obtain ⟨n, hn⟩ : ∃ n, us.length = n := ⟨_, rfl⟩
  rw [hn] at hus2 ⊢
  have HN := Lib.hid hn
  have hwi := within_any w a A n c w.heap.size us hST.rd ok (by rw [← hn]; exact HU.out) (Nat.le_refl _) (by omega)
  obtain ⟨wi, hwie⟩ : ∃ wi, us.any a.own = wi := ⟨_, rfl⟩
  rw [hwie] at hwi
  have HWI := Lib.hid hwi
  have HWE := Lib.hid hwie
  clear hI0 hST hS1 hK hM ok hU hin hi hr hj hln hrok hwi hwie hn hrR
  go_enter Tryd.func46, Tryd.ntmps46
  go_wp2_with fail
  refine HWI.out.mono ?_
  rintro e w1 ⟨rfl, hb1⟩
  cases wi with
  | true =>
    have HF : Hid (CbPost a (I1 a k r br m0) (fun _ _ => False) d ⟨arg, pr, us⟩ F w (.returned (.bool true)) w1) := by
      refine ⟨true, F, rfl, Stp.of_below hb1, fun _ => ?_, fun h => by cases h⟩
      refine ⟨V, m, HST.out.below hb1 HOK.out.g, HS1.out.skip ?_, by rw [List.length_append]; omega, HK.out.below hb1 HK.out.lt, HM.out⟩
      intro hno
      have := (noOwn_iff (i := ⟨arg, pr, us⟩) (p := a.own) (fun _ => rfl)).2 hno
      rw [show (⟨arg, pr, us⟩ : Ins).us.any a.own = true from HWE.out] at this
      cases this
    clear cb0
    go_wp2_with fail
    go_ret
    exact HF.out
  | false =>
    have HNO : Hid (NoOwn a.s a.t ⟨arg, pr, us⟩) := (noOwn_iff (i := ⟨arg, pr, us⟩) (p := a.own) (fun _ => rfl)).1 HWE.out
    have HST1 := Lib.hid (HST.out.below hb1 HOK.out.g)
    have HK1 := Lib.hid (HK.out.below hb1 HK.out.lt)
    have HU1 : Hid (Reads w1 w.heap.size 3 A n (its us)) := by
      rw [← HN.out]
      exact HU.out.below hb1
    have HB1 := Lib.hid hb1
    have hs1 := hb1.size
    obtain ⟨v, hv⟩ : ∃ v, iv (a.W V) ⟨arg, pr, us⟩ = v := ⟨_, rfl⟩
    have hcomb := scomb_any w1.drew a V pr A c w.heap.size us arg (HST1.out.below (Below.refl _ _).drew HOK.out.g).rv HOK.out (by rw [HN.out]; exact HU1.out.drew) (by show w.heap.size ≤ w1.heap.size; exact hs1) (by rw [HN.out]; omega) hpr.1 (fun x hx => HIN.out x hx)
    rw [hv, HN.out] at hcomb
    have HV := Lib.hid hv
    have hvn : Nrm v := by rw [← hv]; exact iv_nrm (WV_nrm HOK.out.C HS1.out.nV) hpr.1
    have HVN := Lib.hid hvn
    have HC := Lib.hid hcomb
    have HS0 : Hid (w1.drew.cell? ⟨a.cb, 0, none⟩ = some (.pointer (some ⟨a.sp, 0, none⟩)) ∧ w1.drew.cell? ⟨br, 1, none⟩ = some (.int .i64 (j : Nat))) := ⟨HST1.out.cb, by have := HK1.out.cell 1; simp [Rl.arr] at this; rw [HJ.out] at this; exact this⟩
    have HOFF : Hid (∀ w9, Below w1.drew.heap.size w1.drew w9 → Calls Tryd.prog 48 #[.pointer (some ⟨a.sp, 0, none⟩), .int .i64 j, .agg #[.int .i64 v.c, .int .i64 v.s]] w9 (OffPost a F (offV V (List.replicate a.N false) j v) (List.replicate a.N false) (m + 1) w9)) := fun w9 h9 =>
      offer_any w9 a F V _ m j v ((HST1.out.below (Below.refl _ _).drew HOK.out.g).below h9 HOK.out.g) HOK.out hjN HVN.out (by omega)
    have HFIN : Hid (∀ w9 w10 G, Below w1.drew.heap.size w1.drew w9 → ST w10 a G (offV V (List.replicate a.N false) j v) (List.replicate a.N false) (m + 1) → Stp a w9 F w10 G → CbPost a (I1 a k r br m0) (fun _ _ => False) d ⟨arg, pr, us⟩ F w (.returned (.bool true)) w10 ∧ w10.cell? ⟨br, 1, none⟩ = some (.int .i64 (j : Nat))) := fun w9 w10 G h9 h10 h11 => by
      have hK9 := (HK1.out.below (Below.refl _ _).drew HK1.out.lt).below h9 HK1.out.lt
      have hK10 := hK9.stp h11 HM.out.1 HM.out.2
      refine ⟨⟨true, G, rfl, ((Stp.of_below HB1.out).next (Below.refl _ _).drew |>.next h9).trans h11, fun _ => ⟨_, m + 1, h10, ?_, by rw [List.length_append]; simp; omega, hK10, HM.out.stp h11 hK9.lt⟩, fun h => by cases h⟩, by have := hK10.cell 1; simp [Rl.arr] at this; rw [HJ.out] at this; exact this⟩
      have := HS1.out.offer (B := List.replicate a.N false) (fx_of HOK.out) List.length_replicate (fun x hx => by rw [List.getElem?_replicate, if_pos hx]) HR.out HI.out HNO.out
      rw [show r.hd.toNat = j by rw [HJ.out]; rfl, show iv (WV a.C a.s a.t V) ⟨arg, pr, us⟩ = v from HV.out] at this
      exact this
    clear cb0 hb1 hcomb hv hvn
    go_wp2_with fail
    go_region_held3 (fun w' => w'.cell? ⟨a.cb, 0, none⟩ = some (.pointer (some ⟨a.sp, 0, none⟩)) ∧ w'.cell? ⟨br, 1, none⟩ = some (.int .i64 (j : Nat)))
      (first | with_reducible exact HS0.out | with_reducible exact HS2.out | with_reducible exact HS3.out)
      (first | (go_at_call 49; (with_reducible refine HC.out.mono ?_); rintro e5 w5 ⟨rfl, hb5⟩; have HB5 := Lib.hid hb5; have HS2 : Hid (w5.cell? ⟨a.cb, 0, none⟩ = some (.pointer (some ⟨a.sp, 0, none⟩)) ∧ w5.cell? ⟨br, 1, none⟩ = some (.int .i64 (j : Nat))) := ⟨(hb5.cell (World.block_lt_of_cell? _ _ HS0.out.1)).trans HS0.out.1, (hb5.cell (World.block_lt_of_cell? _ _ HS0.out.2)).trans HS0.out.2⟩; clear hb5) | (go_at_call 48; (with_reducible refine (HOFF.out _ HB5.out).mono ?_); rintro e6 w6 ⟨v6, rfl, G6, hst6, hsp6⟩; have HF6 := Lib.hid (HFIN.out _ _ _ HB5.out hst6 hsp6); have HS3 : Hid (w6.cell? ⟨a.cb, 0, none⟩ = some (.pointer (some ⟨a.sp, 0, none⟩)) ∧ w6.cell? ⟨br, 1, none⟩ = some (.int .i64 (j : Nat))) := ⟨hst6.cb, HF6.out.2⟩; clear hst6 hsp6))
    all_goals
      go_wp2_with fail
      go_ret
      exact HF6.out.1
theorem cb1 (a : SP) (ok : a.Ok) (k : Nat) (r : Rl) (br m0 : Nat) (hr : a.R[k]? = some r) (hm : m0 + (insts a.L a.s a.t r).length < 99999998) : Cbk a (insts a.L a.s a.t r) 46 #[.pointer (some ⟨a.cb, 0, none⟩), .pointer (some ⟨br, 0, none⟩)] (I1 a k r br m0) (fun _ _ => False) where
  rd := fun ⟨V, m, h, _⟩ => h.rd
  lt := fun ⟨V, m, h, _⟩ k hk => (h.lt.1 k hk).2
  bl := fun ⟨V, m, h, _⟩ => h.lt.2.1
  ns := fun ⟨V, m, h, _⟩ => h.lt.2.2
  below := fun h hb => h.below hb ok.g
  enters := enters_of Tryd.func46 (by kernel_rfl) rfl
  call := fun d i rest F w A c hl hI hU => cb1_call a ok k r br m0 hr d i F w A c (by rw [hl, List.length_append] at hm; omega) (by rw [hl]; simp) hI hU
end Go.Proofs.YthakcefgbggkcaaDoor

namespace Go.Proofs.YthakcefgbggkcaaDoor
open Go.RowKit

theorem bnd_sub {L : List Ar} {s t : Nat} {r : Rl} {i : Ins} (hst : s ≤ t) (h : i ∈ bnd L s t r) : i ∈ insts L s t r := by
  unfold bnd at h
  split at h
  · rename_i hk
    rw [insts_bin hk]
    simp at h
    rcases h with rfl | rfl
    · exact mem_splits.2 ⟨s, by omega, by omega, rfl⟩
    · exact mem_splits.2 ⟨t, by omega, by omega, rfl⟩
  · exact h
theorem allFin_of {a : SP} {B : List Bool} {i : Ins} (h : i.us.any (a.bad B) = false) : AllFin a.s a.t B i := fun x hx ho => by
  rw [List.any_eq_false] at h
  have := h x hx
  simp only [SP.bad, SP.own, ho, Bool.true_and, Bool.not_eq_true, Bool.not_eq_false'] at this
  cases hb : B[x.h.toNat]? with
  | none => rw [hb] at this; simp at this
  | some b => rw [hb] at this; simp at this; rw [this]
theorem allFin_not {a : SP} {B : List Bool} {i : Ins} (h : i.us.any (a.bad B) = true) : ¬ AllFin a.s a.t B i := fun ha => by
  obtain ⟨x, hx, hb⟩ := List.any_eq_true.1 h
  simp only [SP.bad, SP.own, Bool.and_eq_true] at hb
  have := ha x hx hb.1
  rw [this] at hb
  simp at hb
/-- What holds behind the instances d of rule number k. -/
def I3 (a : SP) (B : List Bool) (j0 k : Nat) (r : Rl) (br bs m0 : Nat) (d : List Ins) (F : Nat → Prop) (w : World) : Prop :=
  ∃ V m, ST w a F V B m ∧ S3 a.R a.L a.N a.s a.t a.C V B j0 k d ∧ m ≤ m0 + d.length ∧ Blk w br 65 r.arr ∧ Mine a F br ∧ Blk w bs 83 #[.pointer (some ⟨a.sp, 0, none⟩)] ∧ Mine a F bs
theorem I3.below {a : SP} {B : List Bool} {j0 k : Nat} {r : Rl} {br bs m0 : Nat} {d : List Ins} {F : Nat → Prop} {w w' : World} (h : I3 a B j0 k r br bs m0 d F w) (hb : Below w.heap.size w w') (hg : 0 < a.base) : I3 a B j0 k r br bs m0 d F w' := by
  obtain ⟨V, m, h1, h2, h3, h4, h5, h6, h7⟩ := h
  exact ⟨V, m, h1.below hb hg, h2, h3, h4.below hb h4.lt, h5, h6.below hb h6.lt, h7⟩
set_option maxRecDepth 100000 in
set_option maxHeartbeats 4000000 in
theorem cb3_call (a : SP) (ok : a.Ok) (B : List Bool) (j0 k : Nat) (r : Rl) (br bs m0 : Nat) (hr : a.R[k]? = some r) (d : List Ins) (i : Ins) (F : Nat → Prop) (w : World) (A : Option Addr) (c : Nat) (hm : m0 + d.length < 99999998) (hi : i ∈ insts a.L a.s a.t r) (hI : I3 a B j0 k r br bs m0 d F w) (hU : Reads w w.heap.size 3 A i.us.length (its i.us)) :
    Calls Tryd.prog 63 (#[.int .i64 i.arg, .int .i64 i.pr, .slice A i.us.length c] ++ #[.pointer (some ⟨bs, 0, none⟩), .pointer (some ⟨br, 0, none⟩)]) w (CbPost a (I3 a B j0 k r br bs m0) (fun _ _ => False) d i F w) := by
  have hrR := List.mem_of_getElem? hr
  have hrok := ok.R r hrR
  have hpr := insts_pr hrok ok.L hi
  have hus2 := insts_len hi
  have hin := fun x hx => (insts_in hrok ok.st hi (x := x) hx).1
  have hI0 := hI
  obtain ⟨V, m, hST, hS1, hmm, hK, hM, hKb, hMb⟩ := hI
  have HKb := Lib.hid hKb
  have HMb := Lib.hid hMb
  obtain ⟨j, hj⟩ := Int.eq_ofNat_of_zero_le hrok.hd.1
  have hjN : j < a.N := by have := hrok.hd.2; omega
  have hln := hU
  have HST := Lib.hid hST
  have HS1 := Lib.hid hS1
  have HK := Lib.hid hK
  have HM := Lib.hid hM
  have HOK := Lib.hid ok
  have HU := Lib.hid hU
  have HI0 := Lib.hid hI0
  have HIN := Lib.hid hin
  have HI := Lib.hid hi
  have HR := Lib.hid hr
  have HJ := Lib.hid hj
  have cb0 := hKb.cell 0
  simp at cb0
  clear hKb hMb
  obtain ⟨arg, pr, us⟩ := i
  simp only at hpr hus2 HU ⊢
  obtain ⟨n, hn⟩ : ∃ n, us.length = n := ⟨_, rfl⟩
  rw [hn] at hus2 ⊢
  have HN := Lib.hid hn
  have hwi := within_any w a A n c w.heap.size us hST.rd ok (by rw [← hn]; exact HU.out) (Nat.le_refl _) (by omega)
  obtain ⟨wi, hwie⟩ : ∃ wi, us.any a.own = wi := ⟨_, rfl⟩
  rw [hwie] at hwi
  have HWI := Lib.hid hwi
  obtain ⟨bd, hbd⟩ : ∃ bd, us.any (a.bad B) = bd := ⟨_, rfl⟩
  have hre : ∀ w9, Below w.heap.size w w9 → Calls Tryd.prog 64 #[.pointer (some ⟨a.sp, 0, none⟩), .slice A n c] w9 fun e w' => e = .returned (.bool (!bd)) ∧ Below w9.heap.size w9 w' := fun w9 h9 => by
    have := ready_any w9 a A n c w.heap.size us B (hST.below h9 ok.g).rb (fun x hx => hin x hx) (hST.below h9 ok.g).rd ok (by rw [← hn]; exact HU.out.below h9) h9.size (by omega)
    rw [hbd] at this
    exact this
  have HRE := Lib.hid hre
  have HBD := Lib.hid hbd
  have HWE := Lib.hid hwie
  clear hre hbd
  clear hI0 hST hS1 hK hM ok hU hin hi hr hj hln hrok hwi hwie hn hrR
  go_enter Tryd.func63, Tryd.ntmps63
  go_wp2_with fail
  refine HWI.out.mono ?_
  rintro e w1 ⟨rfl, hb1⟩
  cases wi with
  | false =>
    have HF : Hid (CbPost a (I3 a B j0 k r br bs m0) (fun _ _ => False) d ⟨arg, pr, us⟩ F w (.returned (.bool true)) w1) := by
      refine ⟨true, F, rfl, Stp.of_below hb1, fun _ => ?_, fun h => by cases h⟩
      refine ⟨V, m, HST.out.below hb1 HOK.out.g, HS1.out.skip ?_, by rw [List.length_append]; omega, HK.out.below hb1 HK.out.lt, HM.out, HKb.out.below hb1 HKb.out.lt, HMb.out⟩
      rintro ⟨⟨x, hx, ho, _⟩, _⟩
      have := (noOwn_iff (i := ⟨arg, pr, us⟩) (p := a.own) (fun _ => rfl)).1 HWE.out x hx
      rw [ho] at this
      cases this
    clear cb0
    go_wp2_with fail
    go_ret
    exact HF.out
  | true =>
    clear HWI
    have cb1 := (HKb.out.below hb1 HKb.out.lt).cell 0
    simp at cb1
    have HB0 := Lib.hid hb1
    clear cb0 hb1
    go_wp2_with fail
    refine (HRE.out _ HB0.out).mono ?_
    rintro e w0 ⟨rfl, hb0⟩
    have hb1 : Below w.heap.size w w0 := HB0.out.trans (hb0.mono HB0.out.size)
    clear cb1 hb0 HB0 HRE
    cases bd with
    | true =>
      have HF : Hid (CbPost a (I3 a B j0 k r br bs m0) (fun _ _ => False) d ⟨arg, pr, us⟩ F w (.returned (.bool true)) w0) := by
        refine ⟨true, F, rfl, Stp.of_below hb1, fun _ => ?_, fun h => by cases h⟩
        exact ⟨V, m, HST.out.below hb1 HOK.out.g, HS1.out.skip (fun h => allFin_not HBD.out h.2), by rw [List.length_append]; omega, HK.out.below hb1 HK.out.lt, HM.out, HKb.out.below hb1 HKb.out.lt, HMb.out⟩
      go_wp2_with fail
      go_ret
      exact HF.out
    | false =>
    have HNO : Hid (AllFin a.s a.t B ⟨arg, pr, us⟩) := allFin_of HBD.out
    have HST1 := Lib.hid (HST.out.below hb1 HOK.out.g)
    have HK1 := Lib.hid (HK.out.below hb1 HK.out.lt)
    have HKb1 := Lib.hid (HKb.out.below hb1 HKb.out.lt)
    have HU1 : Hid (Reads w0 w.heap.size 3 A n (its us)) := by
      rw [← HN.out]
      exact HU.out.below hb1
    have HB1 := Lib.hid hb1
    have hs1 := hb1.size
    obtain ⟨v, hv⟩ : ∃ v, iv (a.W V) ⟨arg, pr, us⟩ = v := ⟨_, rfl⟩
    have hcomb := scomb_any w0.drew a V pr A c w.heap.size us arg (HST1.out.below (Below.refl _ _).drew HOK.out.g).rv HOK.out (by rw [HN.out]; exact HU1.out.drew) (by show w.heap.size ≤ w0.heap.size; exact hs1) (by rw [HN.out]; omega) hpr.1 (fun x hx => HIN.out x hx)
    rw [hv, HN.out] at hcomb
    have HV := Lib.hid hv
    have hvn : Nrm v := by rw [← hv]; exact iv_nrm (WV_nrm HOK.out.C HS1.out.nV) hpr.1
    have HVN := Lib.hid hvn
    have HC := Lib.hid hcomb
    have HS0 : Hid (w0.drew.cell? ⟨bs, 0, none⟩ = some (.pointer (some ⟨a.sp, 0, none⟩)) ∧ w0.drew.cell? ⟨br, 1, none⟩ = some (.int .i64 (j : Nat))) := ⟨(HKb1.out.cell 0), by have := HK1.out.cell 1; simp [Rl.arr] at this; rw [HJ.out] at this; exact this⟩
    have HOFF : Hid (∀ w9, Below w0.drew.heap.size w0.drew w9 → Calls Tryd.prog 48 #[.pointer (some ⟨a.sp, 0, none⟩), .int .i64 j, .agg #[.int .i64 v.c, .int .i64 v.s]] w9 (OffPost a F (offV V B j v) B (m + 1) w9)) := fun w9 h9 =>
      offer_any w9 a F V _ m j v ((HST1.out.below (Below.refl _ _).drew HOK.out.g).below h9 HOK.out.g) HOK.out hjN HVN.out (by omega)
    have HFIN : Hid (∀ w9 w10 G, Below w0.drew.heap.size w0.drew w9 → ST w10 a G (offV V B j v) B (m + 1) → Stp a w9 F w10 G → CbPost a (I3 a B j0 k r br bs m0) (fun _ _ => False) d ⟨arg, pr, us⟩ F w (.returned (.bool true)) w10 ∧ w10.cell? ⟨br, 1, none⟩ = some (.int .i64 (j : Nat)) ∧ w10.cell? ⟨bs, 0, none⟩ = some (.pointer (some ⟨a.sp, 0, none⟩))) := fun w9 w10 G h9 h10 h11 => by
      have hK9 := (HK1.out.below (Below.refl _ _).drew HK1.out.lt).below h9 HK1.out.lt
      have hK10 := hK9.stp h11 HM.out.1 HM.out.2
      have hKb9 := (HKb1.out.below (Below.refl _ _).drew HKb1.out.lt).below h9 HKb1.out.lt
      have hKb10 := hKb9.stp h11 HMb.out.1 HMb.out.2
      refine ⟨⟨true, G, rfl, ((Stp.of_below HB1.out).next (Below.refl _ _).drew |>.next h9).trans h11, fun _ => ⟨_, m + 1, h10, ?_, by rw [List.length_append]; simp; omega, hK10, HM.out.stp h11 hK9.lt, hKb10, HMb.out.stp h11 hKb9.lt⟩, fun h => by cases h⟩, by have := hK10.cell 1; simp [Rl.arr] at this; rw [HJ.out] at this; exact this, hKb10.cell 0⟩
      have := HS1.out.offer (fx_of HOK.out) HR.out HI.out HNO.out
      rw [show r.hd.toNat = j by rw [HJ.out]; rfl, show iv (WV a.C a.s a.t V) ⟨arg, pr, us⟩ = v from HV.out] at this
      exact this
    clear hb1 hcomb hv hvn
    go_wp2_with fail
    go_region_held3 (fun w' => w'.cell? ⟨bs, 0, none⟩ = some (.pointer (some ⟨a.sp, 0, none⟩)) ∧ w'.cell? ⟨br, 1, none⟩ = some (.int .i64 (j : Nat)))
      (first | with_reducible exact HS0.out | with_reducible exact HS2.out | with_reducible exact HS3.out)
      (first | (go_at_call 49; (with_reducible refine HC.out.mono ?_); rintro e5 w5 ⟨rfl, hb5⟩; have HB5 := Lib.hid hb5; have HS2 : Hid (w5.cell? ⟨bs, 0, none⟩ = some (.pointer (some ⟨a.sp, 0, none⟩)) ∧ w5.cell? ⟨br, 1, none⟩ = some (.int .i64 (j : Nat))) := ⟨(hb5.cell (World.block_lt_of_cell? _ _ HS0.out.1)).trans HS0.out.1, (hb5.cell (World.block_lt_of_cell? _ _ HS0.out.2)).trans HS0.out.2⟩; clear hb5) | (go_at_call 48; (with_reducible refine (HOFF.out _ HB5.out).mono ?_); rintro e6 w6 ⟨v6, rfl, G6, hst6, hsp6⟩; have HF6 := Lib.hid (HFIN.out _ _ _ HB5.out hst6 hsp6); have HS3 : Hid (w6.cell? ⟨bs, 0, none⟩ = some (.pointer (some ⟨a.sp, 0, none⟩)) ∧ w6.cell? ⟨br, 1, none⟩ = some (.int .i64 (j : Nat))) := ⟨HF6.out.2.2, HF6.out.2.1⟩; clear hst6 hsp6))
    all_goals
      go_wp2_with fail
      go_ret
      exact HF6.out.1
theorem cb3 (a : SP) (ok : a.Ok) (B : List Bool) (j0 k : Nat) (r : Rl) (br bs m0 : Nat) (hr : a.R[k]? = some r) (hm : m0 + (bnd a.L a.s a.t r).length < 99999998) : Cbk a (bnd a.L a.s a.t r) 63 #[.pointer (some ⟨bs, 0, none⟩), .pointer (some ⟨br, 0, none⟩)] (I3 a B j0 k r br bs m0) (fun _ _ => False) where
  rd := fun ⟨V, m, h, _⟩ => h.rd
  lt := fun ⟨V, m, h, _⟩ k hk => (h.lt.1 k hk).2
  bl := fun ⟨V, m, h, _⟩ => h.lt.2.1
  ns := fun ⟨V, m, h, _⟩ => h.lt.2.2
  below := fun h hb => h.below hb ok.g
  enters := enters_of Tryd.func63 (by kernel_rfl) rfl
  call := fun d i rest F w A c hl hI hU => cb3_call a ok B j0 k r br bs m0 hr d i F w A c (by rw [hl, List.length_append] at hm; omega) (bnd_sub ok.st (by rw [hl]; simp)) hI hU
end Go.Proofs.YthakcefgbggkcaaDoor

namespace Go.Proofs.YthakcefgbggkcaaDoor
open Go.RowKit

theorem run_eql_vl (w : World) (a b x y : Int) :
    (binOp .eql 45 (.agg #[.int .i64 a, .int .i64 b]) (.agg #[.int .i64 x, .int .i64 y])).run Tryd.prog w = .ok (.bool (decide (a = x) && decide (b = y))) w := by
  simp only [binOp]
  by_cases h1 : a = x
  · by_cases h2 : b = y <;> simp [go_sem, Op.equal, Op.maxDepth, h1, h2]
  · simp [go_sem, Op.equal, Op.maxDepth, h1]
theorem run_neq_vl (w : World) (a b x y : Int) :
    (binOp .neq 45 (.agg #[.int .i64 a, .int .i64 b]) (.agg #[.int .i64 x, .int .i64 y])).run Tryd.prog w = .ok (.bool (!(decide (a = x) && decide (b = y)))) w := by
  simp only [binOp]
  by_cases h1 : a = x
  · by_cases h2 : b = y <;> simp [go_sem, Op.equal, Op.maxDepth, h1, h2]
  · simp [go_sem, Op.equal, Op.maxDepth, h1]

/-- Where the choice's own blocks lie. -/
structure CP where
  w0 : World
  V : List Vl
  v : Vl
  k : Nat
  bs : Nat
  bv : Nat
  bi : Nat
  bc : Nat
structure CP.Ok (p : CP) (a : SP) : Prop where
  lt : a.sp < p.w0.heap.size ∧ a.bb < p.w0.heap.size ∧ a.fb < p.w0.heap.size ∧ a.hb < p.w0.heap.size
  ne : a.sp ≠ a.bb ∧ a.sp ≠ a.fb ∧ a.sp ≠ a.hb
  own : p.w0.heap.size ≤ p.bs ∧ p.w0.heap.size ≤ p.bv ∧ p.w0.heap.size ≤ p.bi ∧ p.w0.heap.size ≤ p.bc
  rv : RV p.w0 a p.V
def Cl.arr (x : Cl) : Array Value := #[.int .i64 x.v.c, .int .i64 x.v.s, .int .i64 x.r, .int .i64 x.a]
structure CM (a : SP) (p : CP) (x : Cl) (w : World) : Prop where
  kS : Blk w p.bs 83 #[.pointer (some ⟨a.sp, 0, none⟩)]
  kV : Blk w p.bv 45 #[.int .i64 p.v.c, .int .i64 p.v.s]
  kI : Blk w p.bi 3 #[.int .i64 p.k]
  kC : Blk w p.bc 47 x.arr
  below : Below p.w0.heap.size p.w0 w
theorem CM.next {a : SP} {p : CP} {x : Cl} {w w' : World} (h : CM a p x w) (hb : Below w.heap.size w w') : CM a p x w' :=
  ⟨h.kS.below hb h.kS.lt, h.kV.below hb h.kV.lt, h.kI.below hb h.kI.lt, h.kC.below hb h.kC.lt, h.below.trans (hb.mono h.below.size)⟩
theorem CM.set {a : SP} {p : CP} {x : Cl} {w : World} (h : CM a p x w) (hp : p.Ok a) (y : Cl) : CM a p y ((((w.setCell ⟨p.bc, 0, none⟩ (.int .i64 y.v.c)).setCell ⟨p.bc, 1, none⟩ (.int .i64 y.v.s)).setCell ⟨p.bc, 2, none⟩ (.int .i64 y.r)).setCell ⟨p.bc, 3, none⟩ (.int .i64 y.a)) := by
  have n1 : p.bs ≠ p.bc := Blk.ne_ h.kS h.kC (by decide)
  have n2 : p.bv ≠ p.bc := Blk.ne_ h.kV h.kC (by decide)
  have n3 : p.bi ≠ p.bc := Blk.ne_ h.kI h.kC (by decide)
  exact ⟨(((h.kS.far (p := ⟨p.bc, 0, none⟩) n1 _).far (p := ⟨p.bc, 1, none⟩) n1 _).far (p := ⟨p.bc, 2, none⟩) n1 _).far (p := ⟨p.bc, 3, none⟩) n1 _,
    (((h.kV.far (p := ⟨p.bc, 0, none⟩) n2 _).far (p := ⟨p.bc, 1, none⟩) n2 _).far (p := ⟨p.bc, 2, none⟩) n2 _).far (p := ⟨p.bc, 3, none⟩) n2 _,
    (((h.kI.far (p := ⟨p.bc, 0, none⟩) n3 _).far (p := ⟨p.bc, 1, none⟩) n3 _).far (p := ⟨p.bc, 2, none⟩) n3 _).far (p := ⟨p.bc, 3, none⟩) n3 _,
    h.kC.set4 _ _ _ _, at_below h.below hp.own.2.2.2 _ _ _ _⟩
def I2 (a : SP) (p : CP) (d : List Ins) (F : Nat → Prop) (w : World) : Prop := F = (fun k => k = p.bc) ∧ CM a p cnone w ∧ ∀ x ∈ d, iv (a.W p.V) x ≠ p.v
def F2 (a : SP) (p : CP) (l : List Ins) (_ : Nat → Prop) (w : World) : Prop := ∃ d x rest, l = d ++ x :: rest ∧ (∀ y ∈ d, iv (a.W p.V) y ≠ p.v) ∧ iv (a.W p.V) x = p.v ∧ CM a p ⟨p.v, p.k, x.arg⟩ w

set_option maxRecDepth 100000 in
set_option maxHeartbeats 4000000 in
theorem cb2_call (a : SP) (ok : a.Ok) (p : CP) (hp : p.Ok a) (r : Rl) (hr : r ∈ a.R) (l d : List Ins) (i : Ins) (rest : List Ins) (F : Nat → Prop) (w : World) (A : Option Addr) (c : Nat) (hl : l = d ++ i :: rest) (hi : i ∈ insts a.L a.s a.t r) (hI : I2 a p d F w) (hU : Reads w w.heap.size 3 A i.us.length (its i.us)) :
    Calls Tryd.prog 65 (#[.int .i64 i.arg, .int .i64 i.pr, .slice A i.us.length c] ++ #[.pointer (some ⟨p.bs, 0, none⟩), .pointer (some ⟨p.bv, 0, none⟩), .pointer (some ⟨p.bi, 0, none⟩), .pointer (some ⟨p.bc, 0, none⟩)]) w (CbPost a (I2 a p) (F2 a p l) d i F w) := by
  have hrok := ok.R r hr
  have hpr := insts_pr hrok ok.L hi
  have hus2 := insts_len hi
  have hin := fun x hx => (insts_in hrok ok.st hi (x := x) hx).1
  obtain ⟨hF, hM, hne⟩ := hI
  have hrv := hp.rv.below hM.below ok.g
  obtain ⟨v, hv⟩ : ∃ v, iv (a.W p.V) i = v := ⟨_, rfl⟩
  have hcomb := fun u : Ext w => scomb_any u.W a p.V i.pr A c w.heap.size i.us i.arg (hrv.below u.h ok.g) ok (hU.below u.h) u.h.size (by omega) hpr.1 hin
  rw [show (⟨i.arg, i.pr, i.us⟩ : Ins) = i from rfl, hv] at hcomb
  have HC := Lib.hid hcomb
  have HM := Lib.hid hM
  have HP := Lib.hid hp
  have HV := Lib.hid hv
  have HF := Lib.hid hF
  have HNE := Lib.hid hne
  have HL := Lib.hid hl
  have hE := fun w => run_neq_vl w v.c v.s p.v.c p.v.s
  have x3 := ext_cell (hM.kS.cell 0)
  have x40 := ext_cell (hM.kV.cell 0)
  have x41 := ext_cell (hM.kV.cell 1)
  simp at x3 x40 x41
  obtain ⟨n, hn⟩ : ∃ n, i.us.length = n := ⟨_, rfl⟩
  rw [hn] at HC ⊢
  obtain ⟨arg, pr, us⟩ := i
  simp only at HC ⊢
  clear hcomb hM hp hv hF hne hl hrv hrok hin hU hi hr hus2 hpr hn
  by_cases he : v = p.v
  case neg =>
    have hd : (decide (v.c = p.v.c) && decide (v.s = p.v.s)) = false := by
      cases hb : decide (v.c = p.v.c) && decide (v.s = p.v.s) with
      | false => rfl
      | true =>
        simp only [Bool.and_eq_true, decide_eq_true_eq] at hb
        exact absurd (Vl.ext' hb.1 hb.2) he
    simp only [hd, Bool.not_false] at hE
    have HFIN : Hid (∀ w9, Below w.heap.size w w9 → CbPost a (I2 a p) (F2 a p l) d ⟨arg, pr, us⟩ F w (.returned (.bool true)) w9) := fun w9 h9 => by
      refine ⟨true, F, rfl, Stp.of_below h9, fun _ => ⟨HF.out, HM.out.next h9, fun x hx => ?_⟩, fun h => by cases h⟩
      rcases List.mem_append.1 hx with hx | hx
      · exact HNE.out x hx
      · simp at hx; subst hx; rw [HV.out]; exact he
    clear he hd
    go_enter Tryd.func65, Tryd.ntmps65
    go_wp2_with fail
    refine wp_region_ext (by kernel_rfl) (by kernel_rfl) ?_
    repeat (go_big_quiet_step (exact calls_ext (HC.out _)))
    refine wpQuiet_nil ?_
    rintro _ ⟨u, rfl⟩
    have HFU := Lib.hid (HFIN.out _ u.h)
    go_wp2_with fail
    go_ret
    exact HFU.out
  case pos =>
    subst he
    have hd : (decide (p.v.c = p.v.c) && decide (p.v.s = p.v.s)) = true := by simp
    simp only [Bool.not_true] at hE
    clear hd
    go_enter Tryd.func65, Tryd.ntmps65
    go_wp2_with fail
    refine wp_region_ext (by kernel_rfl) (by kernel_rfl) ?_
    repeat (go_big_quiet_step (exact calls_ext (HC.out _)))
    refine wpQuiet_nil ?_
    rintro _ ⟨u, rfl⟩
    have HM1 := Lib.hid (HM.out.next u.h)
    have HBU := Lib.hid u.h
    clear x3 x40 x41 HC hE
    generalize u.W = w1 at HM1 HBU ⊢
    clear u
    have v0 := HM1.out.kV.cell 0
    have v1 := HM1.out.kV.cell 1
    have i0 := HM1.out.kI.cell 0
    have c0 := HM1.out.kC.cell 0
    have c1 := HM1.out.kC.cell 1
    have c2 := HM1.out.kC.cell 2
    have c3 := HM1.out.kC.cell 3
    have z0 := HM1.out.kC.frozen 0
    have z1 := HM1.out.kC.frozen 1
    have z2 := HM1.out.kC.frozen 2
    have z3 := HM1.out.kC.frozen 3
    simp [Cl.arr] at v0 v1 i0 c0 c1 c2 c3
    have HFIN : Hid (CbPost a (I2 a p) (F2 a p l) d ⟨arg, pr, us⟩ F w (.returned (.bool false)) ((((w1.setCell ⟨p.bc, 0, none⟩ (.int .i64 p.v.c)).setCell ⟨p.bc, 1, none⟩ (.int .i64 p.v.s)).setCell ⟨p.bc, 2, none⟩ (.int .i64 p.k)).setCell ⟨p.bc, 3, none⟩ (.int .i64 arg))) := by
      refine ⟨false, F, rfl, ⟨?_, fun _ h => .inl h⟩, (fun h => by cases h), fun _ => ⟨d, ⟨arg, pr, us⟩, rest, HL.out, HNE.out, HV.out, HM1.out.set HP.out ⟨p.v, p.k, arg⟩⟩⟩
      have hFb : F p.bc := by rw [HF.out]
      exact (((((Touch.of_below HBU.out).setCell (p := ⟨p.bc, 0, none⟩) (.inl (.inl hFb)) _).setCell (p := ⟨p.bc, 1, none⟩) (.inl (.inl hFb)) _).setCell (p := ⟨p.bc, 2, none⟩) (.inl (.inl hFb)) _).setCell (p := ⟨p.bc, 3, none⟩) (.inl (.inl hFb)) _)
    go_wp2_with fail
    go_ret
    exact HFIN.out
theorem cb2 (a : SP) (ok : a.Ok) (p : CP) (hp : p.Ok a) (r : Rl) (hr : r ∈ a.R) : Cbk a (insts a.L a.s a.t r) 65 #[.pointer (some ⟨p.bs, 0, none⟩), .pointer (some ⟨p.bv, 0, none⟩), .pointer (some ⟨p.bi, 0, none⟩), .pointer (some ⟨p.bc, 0, none⟩)] (I2 a p) (F2 a p (insts a.L a.s a.t r)) where
  rd := fun ⟨_, h, _⟩ => (hp.rv.below h.below ok.g).rd
  lt := fun ⟨hF, h, _⟩ k hk => by rw [hF] at hk; rw [hk]; exact h.kC.lt
  bl := fun ⟨_, h, _⟩ => by have := h.below.size; have := hp.lt; omega
  ns := fun ⟨hF, h, _⟩ => ⟨fun hs => by rw [hF] at hs; have := hp.lt; have := hp.own; omega, hp.ne⟩
  below := fun ⟨hF, h, hn⟩ hb => ⟨hF, h.next hb, hn⟩
  enters := enters_of Tryd.func65 (by kernel_rfl) rfl
  call := fun d i rest F w A c hl hI hU => cb2_call a ok p hp r hr _ d i rest F w A c hl (by rw [hl]; simp) hI hU
end Go.Proofs.YthakcefgbggkcaaDoor

namespace Go.Proofs.YthakcefgbggkcaaDoor
open Go.RowKit

section
variable {R : List Rl} {L : List Ar} {s t h k : Nat} {C : It → Vl} {U : Nat → Vl} {r : Rl}
def insHTo (R : List Rl) (L : List Ar) (s t h k : Nat) : List (Nat × Ins) := (List.range k).flatMap fun k => match R[k]? with
  | some r => if r.hd.toNat = h then (insts L s t r).map fun i => (k, i) else []
  | none => []
theorem insHTo_end : insHTo R L s t h R.length = insH R L s t h := rfl
theorem insHTo_succ (hr : R[k]? = some r) : insHTo R L s t h (k + 1) = insHTo R L s t h k ++ if r.hd.toNat = h then (insts L s t r).map fun i => (k, i) else [] := by
  unfold insHTo
  rw [List.range_succ, List.flatMap_append]
  simp [hr]
/-- The cell behind the first k rules. -/
def celTo (R : List Rl) (L : List Ar) (s t : Nat) (C : It → Vl) (U : Nat → Vl) (h k : Nat) : Cl :=
  if (U h).c < 1099511627776 then (match (insHTo R L s t h k).find? (atts C s t U h) with
    | some x => ⟨U h, x.1, x.2.arg⟩
    | none => cnone) else cnone
theorem celTo_end : celTo R L s t C U h R.length = cel R L s t C U h := rfl
theorem celTo_zero : celTo R L s t C U h 0 = cnone := by
  unfold celTo insHTo
  simp
theorem celTo_skip (hr : R[k]? = some r) (hn : ¬ (r.hd.toNat = h ∧ (U h).c < 1099511627776 ∧ (celTo R L s t C U h k).r < 0)) : celTo R L s t C U h (k + 1) = celTo R L s t C U h k := by
  unfold celTo at hn ⊢
  by_cases hf : (U h).c < 1099511627776
  · rw [if_pos hf] at hn
    rw [if_pos hf, if_pos hf, insHTo_succ hr]
    by_cases hh : r.hd.toNat = h
    · rw [if_pos hh, List.find?_append]
      cases hx : (insHTo R L s t h k).find? (atts C s t U h) with
      | some x => rfl
      | none =>
        rw [hx] at hn
        exact absurd ⟨hh, hf, (show (-1 : Int) < 0 by decide)⟩ hn
    · rw [if_neg hh, List.append_nil]
  · rw [if_neg hf, if_neg hf]
theorem celTo_neg (hl : (celTo R L s t C U h k).r < 0) : celTo R L s t C U h k = cnone := by
  unfold celTo at hl ⊢
  split
  · rename_i hf
    rw [if_pos hf] at hl
    cases hx : (insHTo R L s t h k).find? (atts C s t U h) with
    | some x => rw [hx] at hl; simp only at hl; omega
    | none => rfl
  · rfl
theorem celTo_none (hr : R[k]? = some r) (hl : (celTo R L s t C U h k).r < 0) (hno : ∀ x ∈ insts L s t r, iv (spv C s t U) x ≠ U h) : celTo R L s t C U h (k + 1) = cnone := by
  have he := celTo_neg hl
  unfold celTo at hl ⊢
  split
  · rename_i hf
    rw [if_pos hf] at hl
    rw [insHTo_succ hr, List.find?_append]
    cases hx : (insHTo R L s t h k).find? (atts C s t U h) with
    | some x => rw [hx] at hl; simp only at hl; omega
    | none =>
      have : (if r.hd.toNat = h then (insts L s t r).map fun i => (k, i) else []).find? (atts C s t U h) = none := by
        rw [List.find?_eq_none]
        intro x hx
        split at hx
        · obtain ⟨i, hi, rfl⟩ := List.mem_map.1 hx
          intro ha
          exact hno i hi (atts_iff.1 ha)
        · simp at hx
      rw [this]
      rfl
  · rfl
theorem celTo_some (hr : R[k]? = some r) (hh : r.hd.toNat = h) (hf : (U h).c < 1099511627776) (hl : (celTo R L s t C U h k).r < 0) {d rest : List Ins} {x : Ins} (hi : insts L s t r = d ++ x :: rest) (hno : ∀ y ∈ d, iv (spv C s t U) y ≠ U h) (hx : iv (spv C s t U) x = U h) : celTo R L s t C U h (k + 1) = ⟨U h, k, x.arg⟩ := by
  unfold celTo at hl ⊢
  rw [if_pos hf] at hl
  rw [if_pos hf, insHTo_succ hr, if_pos hh, List.find?_append]
  cases hx2 : (insHTo R L s t h k).find? (atts C s t U h) with
  | some x => rw [hx2] at hl; simp only at hl; omega
  | none =>
    have h1 : (d.map fun i => ((k, i) : Nat × Ins)).find? (atts C s t U h) = none := by
      rw [List.find?_eq_none]
      intro y hy
      obtain ⟨i, hi, rfl⟩ := List.mem_map.1 hy
      intro ha
      exact hno i hi (atts_iff.1 ha)
    have h2 : atts C s t U h (k, x) = true := atts_iff.2 hx
    rw [hi, List.map_append, List.find?_append, h1, List.map_cons, List.find?_cons, h2]
    rfl
end

theorem celTo_dec (x : Cl) : decide ((0 : Int) ≤ x.r) = !decide (x.r < 0) := by
  by_cases h : x.r < 0
  · simp [h]
  · simp [h]; omega
set_option maxRecDepth 100000 in
set_option maxHeartbeats 8000000 in
theorem choose_any (w : World) (a : SP) (F : Nat → Prop) (V : List Vl) (B : List Bool) (m j : Nat) (hST : ST w a F V B m) (ok : a.Ok) (hj : j < a.N) :
    Calls Tryd.prog 51 #[.pointer (some ⟨a.sp, 0, none⟩), .int .i64 j] w fun e w' => e = .returned (cel a.R a.L a.s a.t a.C (gv V) j).val ∧ Below w.heap.size w w' := by
  have hRV := hST.rv
  obtain ⟨_, hlt, hns⟩ := hST.lt
  obtain ⟨v, hv⟩ : ∃ v, V[j]? = some v := ⟨_, List.getElem?_eq_getElem (by rw [hRV.lV]; exact hj)⟩
  have hgv := gv_at hv
  obtain ⟨bs, hbs⟩ : ∃ bs, w.heap.size = bs := ⟨_, rfl⟩
  obtain ⟨W, hW⟩ : ∃ W, (w.alloc (.cells #[.pointer (some ⟨a.sp, 0, none⟩)] 83)).alloc (.cells #[.int .i64 0, .int .i64 0, .int .i64 0, .int .i64 0] 47) = W := ⟨_, rfl⟩
  have hbW : Below w.heap.size w W := by rw [← hW]; exact ((Below.refl _ _).alloc (Nat.le_refl _) _).alloc (by simp) _
  have hsW : W.heap.size = w.heap.size + 2 := by rw [← hW]; simp
  have KS : Blk W bs 83 #[.pointer (some ⟨a.sp, 0, none⟩)] := by rw [← hW]; exact (Blk.new' _ _ _ hbs).alloc _
  have KR : Blk W (bs + 1) 47 #[.int .i64 0, .int .i64 0, .int .i64 0, .int .i64 0] := by rw [← hW]; exact Blk.new' _ _ _ (by simp; omega)
  have HRV := Lib.hid hRV
  have HST := Lib.hid hST
  have HOK := Lib.hid ok
  have HLT := Lib.hid hlt
  have HNS := Lib.hid hns
  have HV := Lib.hid (And.intro hv hgv)
  have HW := Lib.hid hW
  have HBW := Lib.hid hbW
  have HKS := Lib.hid KS
  have HKR := Lib.hid KR
  have HBS := Lib.hid hbs
  have s0 := KS.cell 0
  simp at s0
  have hRW := hRV.below hbW ok.g
  have HG := Lib.hid hRW.rd.g
  have c12 := hRW.rd.kS.cell 12
  simp [SP.cells] at c12
  obtain ⟨v0, v1⟩ := hRW.kV.vl_at hv
  have hspl : a.sp < bs := by have := hRV.rd.kS.lt; omega
  clear hRV hST ok hlt hns hv hgv hW hbW KS KR hRW
  go_enter Tryd.func51, Tryd.ntmps51
  go_upto_region 1 with fail
  rw [HW.out]
  obtain ⟨g0, g1, g2, g3⟩ := HG.out
  go_upto_region 3 with fail
  clear g0 g1 g2 g3 s0 c12 v0 v1
  have hbW2 : Below W.heap.size W ((W.alloc (.cells #[.int .i64 v.c, .int .i64 v.s] 45)).alloc (.cells #[.int .i64 1099511627776, .int .i64 0, .int .i64 (-1), .int .i64 0] 47)) := ((Below.refl _ _).alloc (Nat.le_refl _) _).alloc (by simp) _
  have HKV2 : Hid (Blk ((W.alloc (.cells #[.int .i64 v.c, .int .i64 v.s] 45)).alloc (.cells #[.int .i64 1099511627776, .int .i64 0, .int .i64 (-1), .int .i64 0] 47)) W.heap.size 45 #[.int .i64 v.c, .int .i64 v.s]) := (Blk.new' W _ _ rfl).alloc _
  have HKC2 : Hid (Blk ((W.alloc (.cells #[.int .i64 v.c, .int .i64 v.s] 45)).alloc (.cells #[.int .i64 1099511627776, .int .i64 0, .int .i64 (-1), .int .i64 0] 47)) (W.heap.size + 1) 47 cnone.arr) := Blk.new' _ _ _ (by simp)
  have HB2 := Lib.hid hbW2
  generalize (W.alloc (.cells #[.int .i64 v.c, .int .i64 v.s] 45)).alloc (.cells #[.int .i64 1099511627776, .int .i64 0, .int .i64 (-1), .int .i64 0] 47) = w2 at HKV2 HKC2 HB2 ⊢
  clear hbW2
  have hbv0 : W.heap.size = bs + 2 := by omega
  rw [hbv0] at HKV2 HKC2
  obtain ⟨bv, hbv⟩ : ∃ bv, bs + 2 = bv := ⟨_, rfl⟩
  rw [hbv] at HKV2 HKC2 ⊢
  have HBV := Lib.hid (show bs ≤ bv by omega)
  have HKS2 := Lib.hid (HKS.out.below HB2.out HKS.out.lt)
  have HKR2 := Lib.hid (HKR.out.below HB2.out HKR.out.lt)
  have HBB2 : Hid (Below w.heap.size w w2) := HBW.out.trans (HB2.out.mono HBW.out.size)
  have hp : Hid (∀ k bi, w.heap.size ≤ bi → (⟨w, V, v, k, bs, bv, bi, bv + 1⟩ : CP).Ok a) := fun k bi h => ⟨⟨HRV.out.rd.kS.lt, HLT.out.1, HLT.out.2.1, HLT.out.2.2⟩, HNS.out.2, ⟨by simp only; have := HBS.out; omega, by simp only; have := HBS.out; have := HBV.out; omega, h, by simp only; have := HBS.out; have := HBV.out; omega⟩, HRV.out⟩
  have s0 := HKS2.out.cell 0
  have c3 := (HRV.out.below HBB2.out HOK.out.g).rd.kS.cell 3
  simp [SP.cells] at s0 c3
  obtain ⟨n, hn⟩ : ∃ n, a.R.length = n := ⟨_, rfl⟩
  rw [hn] at c3
  have HN := Lib.hid hn
  have hnR : n ≤ 600 := by rw [← hn]; exact HOK.out.nR
  clear HKS HKR HB2 HW HBW hsW hbv hn hbs hbv0
  go_wp2_with fail
  have HC0 : Hid (Blk w2 (bv + 1) 47 (celTo a.R a.L a.s a.t a.C (gv V) j 0).arr) := by rw [celTo_zero]; exact HKC2
  go_loopw [23] (fun x wr => ∃ k : Nat, k ≤ n ∧ x = .int .i64 k ∧ Hid (Blk wr bs 83 #[.pointer (some ⟨a.sp, 0, none⟩)]) ∧ Hid (Blk wr bv 45 #[.int .i64 v.c, .int .i64 v.s]) ∧ Hid (Blk wr (bv + 1) 47 (celTo a.R a.L a.s a.t a.C (gv V) j k).arr) ∧ Hid (Blk wr (bs + 1) 47 #[.int .i64 0, .int .i64 0, .int .i64 0, .int .i64 0]) ∧ Hid (Below w.heap.size w wr)) (fun x _ => n - (intOf x).toNat)
  case atStart => exact ⟨0, Nat.zero_le _, rfl, HKS2, HKV2, HC0, HKR2, HBB2⟩
  case round =>
    obtain ⟨k, hk, rfl, HS3, HV3, HC3, HR3, HB3⟩ := hrel
    clear HKS2 HKV2 HC0 HKR2 HBB2 HKC2 s0 c3
    by_cases hlt : k < n
    case neg => as_aux_lemma =>
      have hltD : decide (k < n) = false := by simp [hlt]
      obtain rfl : k = n := by omega
      have hce : celTo a.R a.L a.s a.t a.C (gv V) j k = cel a.R a.L a.s a.t a.C (gv V) j := by rw [← HN.out]; exact celTo_end
      rw [hce] at HC3
      obtain ⟨x, hx⟩ : ∃ x, cel a.R a.L a.s a.t a.C (gv V) j = x := ⟨_, rfl⟩
      rw [hx] at HC3
      have HXE := Lib.hid hx
      have x0 := HC3.out.cell 0
      have x1 := HC3.out.cell 1
      have x2 := HC3.out.cell 2
      have x3 := HC3.out.cell 3
      simp [Cl.arr] at x0 x1 x2 x3
      have y0 := HR3.out.cell 0
      have y1 := HR3.out.cell 1
      have y2 := HR3.out.cell 2
      have y3 := HR3.out.cell 3
      have z0 := HR3.out.frozen 0
      have z1 := HR3.out.frozen 1
      have z2 := HR3.out.frozen 2
      have z3 := HR3.out.frozen 3
      simp at y0 y1 y2 y3
      clear hce hx
      go_wp2_with fail
      have r1 := HR3.out.set4 (.int .i64 x.v.c) (.int .i64 x.v.s) (.int .i64 x.r) (.int .i64 x.a)
      exact bodyPost_ret (results_cl rfl rfl (r1.cell 0) (r1.cell 1) (r1.cell 2) (r1.cell 3)) rfl ⟨by rw [HXE.out]; rfl, at_below HB3.out (by have := HBS.out; omega) _ _ _ _⟩
    case pos =>
      have hltD : decide (k < n) = true := by simp [hlt]
      obtain ⟨b, off, r, hA, hbB, hr, p0, p1, p2, p3, p4, p5⟩ := (HRV.out.below HB3.out HOK.out.g).rd.rR.rl_at (k := k) (by rw [HN.out]; exact hlt)
      have hrok := HOK.out.R r (List.mem_of_getElem? hr)
      have hhd := hrok.hd
      obtain ⟨x, hx⟩ : ∃ x, celTo a.R a.L a.s a.t a.C (gv V) j k = x := ⟨_, rfl⟩
      have hskip := fun hn => celTo_skip (R := a.R) (L := a.L) (s := a.s) (t := a.t) (C := a.C) (U := gv V) (h := j) hr hn
      rw [hx, HV.out.2] at hskip
      rw [hx] at HC3
      have HX := Lib.hid hx
      have HSK := Lib.hid hskip
      have HRR := Lib.hid (And.intro hr hrok)
      have x0 := HC3.out.cell 0
      have x2 := HC3.out.cell 2
      have s0 := HS3.out.cell 0
      have v0 := HV3.out.cell 0
      have v1 := HV3.out.cell 1
      simp [Cl.arr] at x0 x2 s0 v0 v1
      obtain ⟨w5, hw5⟩ : ∃ w5, (wr.alloc (.cells #[.int .i64 k] 3)).alloc (.cells r.arr 65) = w5 := ⟨_, rfl⟩
      have hb5 : Below wr.heap.size wr w5 := by rw [← hw5]; exact ((Below.refl _ _).alloc (Nat.le_refl _) _).alloc (by simp) _
      have HI5 : Hid (Blk w5 wr.heap.size 3 #[.int .i64 k]) := by rw [← hw5]; exact (Blk.new' wr _ _ rfl).alloc _
      have HR5 : Hid (Blk w5 (wr.heap.size + 1) 65 r.arr) := by rw [← hw5]; exact Blk.new' _ _ _ (by simp)
      have HB5 := Lib.hid hb5
      have HW5 : Hid ((wr.alloc (.cells #[.int .i64 k] 3)).alloc (.cells #[.int .i64 r.k, .int .i64 r.hd, .int .i64 r.a, .int .i64 r.b, .int .i64 r.p, .int .i64 r.o] 65) = w5) := hw5
      have hsz3 := HB3.out.size
      clear hw5 hb5 hx hskip hr hrok
      rw [hA]
      have hHD : Hid (r.hd.toNat = j ↔ r.hd = (j : Int)) := Lib.hid ⟨fun h => by omega, fun h => by omega⟩
      go_upto_region 6 with fail
      rw [HW5.out]
      clear p0 p1 p2 p3 p4 p5 s0 v0 v1 x0 x2
      have HS5 := Lib.hid (HS3.out.below HB5.out HS3.out.lt)
      have HV5 := Lib.hid (HV3.out.below HB5.out HV3.out.lt)
      have HC5 := Lib.hid (HC3.out.below HB5.out HC3.out.lt)
      have HZ5 := Lib.hid (HR3.out.below HB5.out HR3.out.lt)
      have HBB5 : Hid (Below w.heap.size w w5) := HB3.out.trans (HB5.out.mono hsz3)
      obtain ⟨bi, hbi⟩ : ∃ bi, wr.heap.size = bi := ⟨_, rfl⟩
      rw [hbi] at HI5 HR5 ⊢
      have HBI : Hid (w.heap.size ≤ bi) := by rw [← hbi]; exact hsz3
      have r1 := HR5.out.cell 1
      have x2 := HC5.out.cell 2
      have v0 := HV5.out.cell 0
      simp [Cl.arr, Rl.arr] at r1 x2 v0
      have HINS : Hid (r.hd.toNat = j → (gv V j).c < 1099511627776 → x.r < 0 → Calls Tryd.prog 45 #[.pointer (some ⟨a.sp, 0, none⟩), r.val, .func (.func 65) #[] #[.pointer (some ⟨bs, 0, none⟩), .pointer (some ⟨bv, 0, none⟩), .pointer (some ⟨bi, 0, none⟩), .pointer (some ⟨bv + 1, 0, none⟩)]] w5 fun e w' => (∃ v, e = .returned v) ∧ Hid (Blk w' bs 83 #[.pointer (some ⟨a.sp, 0, none⟩)]) ∧ Hid (Blk w' bv 45 #[.int .i64 v.c, .int .i64 v.s]) ∧ Hid (Blk w' (bv + 1) 47 (celTo a.R a.L a.s a.t a.C (gv V) j (k + 1)).arr) ∧ Hid (Blk w' (bs + 1) 47 #[.int .i64 0, .int .i64 0, .int .i64 0, .int .i64 0]) ∧ Hid (Below w.heap.size w w')) := fun h1 h2 h3 => by
        have hpo := hp.out k bi HBI.out
        have hxn : x = cnone := by rw [← HX.out]; exact celTo_neg (by rw [HX.out]; exact h3)
        have hM : CM a ⟨w, V, v, k, bs, bv, bi, bv + 1⟩ cnone w5 := ⟨HS5.out, HV5.out, HI5.out, by rw [← hxn]; exact HC5.out, HBB5.out⟩
        have hcb := cb2 a HOK.out ⟨w, V, v, k, bs, bv, bi, bv + 1⟩ hpo r (List.mem_of_getElem? HRR.out.1)
        refine (ins_any w5 r (fun g => g = bv + 1) HOK.out HRR.out.2 hcb ⟨rfl, hM, fun y hy => by simp at hy⟩).mono ?_
        rintro e w' ⟨v', rfl, G, hs, hres⟩
        have hne : bs + 1 ≠ bv + 1 := fun e => by have := Blk.ne_ HS5.out HV5.out (by decide); omega
        have hlt := HLT.out
        have hbs' := HBS.out
        have hZ := HZ5.out.stp hs hne ⟨by omega, by omega, by omega⟩
        have hkey : ∃ y, CM a ⟨w, V, v, k, bs, bv, bi, bv + 1⟩ y w' ∧ celTo a.R a.L a.s a.t a.C (gv V) j (k + 1) = y := by
          rcases hres with ⟨_, hm, hno⟩ | ⟨d, y, rest, hl, hno, hy, hm⟩
          · exact ⟨cnone, hm, celTo_none HRR.out.1 (by rw [HX.out]; exact h3) (fun z hz => by rw [HV.out.2]; exact hno z hz)⟩
          · refine ⟨_, hm, ?_⟩
            rw [celTo_some HRR.out.1 h1 h2 (by rw [HX.out]; exact h3) hl (fun z hz => by rw [HV.out.2]; exact hno z hz) (by rw [HV.out.2]; exact hy), HV.out.2]
        obtain ⟨y, hm, hy⟩ := hkey
        rw [hy]
        exact ⟨⟨_, rfl⟩, hm.kS, hm.kV, hm.kC, hZ, hm.below⟩
      have hr1 : r.hd = (j : Int) ∨ r.hd ≠ (j : Int) := Classical.em _
      have s05 := HS5.out.cell 0
      simp at s05
      have q0 := HR5.out.cell 0
      have q2 := HR5.out.cell 2
      have q3 := HR5.out.cell 3
      have q4 := HR5.out.cell 4
      have q5 := HR5.out.cell 5
      simp [Rl.arr] at q0 q2 q3 q4 q5
      have hmf : ∀ (fn : Fn) (first cap : Array Value) (w : World), (Instr.makeFunc fn first cap).run Tryd.prog w = .ok (.func fn first cap) w := fun _ _ _ _ => rfl
      clear hbi HW5 hsz3 hbB hA
      by_cases hgo : r.hd = (j : Int) ∧ v.c < 1099511627776 ∧ x.r < 0
      case neg =>
        have hce := HSK.out (fun h => hgo ⟨hHD.out.1 h.1, h.2⟩)
        have HCE : Hid (Blk w5 (bv + 1) 47 (celTo a.R a.L a.s a.t a.C (gv V) j (k + 1)).arr) := by rw [hce]; exact HC5.out
        obtain ⟨d1, d1'⟩ | ⟨d1, d1', d2⟩ | ⟨d1, d1', d2, d3⟩ : ((r.hd == (j : Int)) = false ∧ (r.hd != (j : Int)) = true) ∨ ((r.hd == (j : Int)) = true ∧ (r.hd != (j : Int)) = false ∧ decide ((1099511627776 : Int) ≤ v.c) = true) ∨ ((r.hd == (j : Int)) = true ∧ (r.hd != (j : Int)) = false ∧ decide ((1099511627776 : Int) ≤ v.c) = false ∧ decide ((0 : Int) ≤ x.r) = true) := by
          by_cases h1 : r.hd = (j : Int)
          · right
            by_cases h2 : v.c < 1099511627776
            · right
              exact ⟨by simpa using h1, by simpa using h1, by simp; omega, by simp; by_cases h3 : x.r < 0; exact absurd ⟨h1, h2, h3⟩ hgo; omega⟩
            · left
              exact ⟨by simpa using h1, by simpa using h1, by simp; omega⟩
          · exact .inl ⟨by simpa using h1, by simpa using h1⟩
        all_goals
          clear hgo hce hr1
          go_wp2_with fail
          go_roundw
          case rel => exact ⟨k + 1, by omega, by go_num, HS5, HV5, HCE, HZ5, HBB5⟩
          case measure => simp [intOf]; omega
      case pos =>
        obtain ⟨h1, h2, h3⟩ := hgo
        have d1 : (r.hd == (j : Int)) = true := by simpa using h1
        have d1' : (r.hd != (j : Int)) = false := by simpa using h1
        have d2 : decide ((1099511627776 : Int) ≤ v.c) = false := by simp; omega
        have d3 : decide ((0 : Int) ≤ x.r) = false := by simp; omega
        have HCALL := Lib.hid (HINS.out (hHD.out.2 h1) (by rw [HV.out.2]; exact h2) h3)
        simp only [Rl.val] at HCALL
        clear h1 h2 h3 hr1
        go_wp2_with fail
        refine HCALL.out.mono ?_
        rintro e w6 ⟨⟨v6, rfl⟩, HS6, HV6, HC6, HZ6, HB6⟩
        go_wp2_with fail
        go_roundw
        case rel => exact ⟨k + 1, by omega, by go_num, HS6, HV6, HC6, HZ6, HB6⟩
        case measure => simp [intOf]; omega
end Go.Proofs.YthakcefgbggkcaaDoor
