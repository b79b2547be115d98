/- The invariant from start to end. -/
import Derived.Test.YtkeiakmfnammbaaKnSol
namespace Go.Proofs.Ytkeiakmfnammbaa
open Go.RowKit

theorem opn_set : ∀ {O : List Int} {k : Nat} {o x : Int}, O[k]? = some o → opn (O.set k x) + (if 0 < o then 1 else 0) = opn O + (if 0 < x then 1 else 0)
  | [], _, _, _, h => by simp at h
  | a :: O, 0, o, x, h => by
    simp at h
    subst h
    simp only [opn, List.set_cons_zero, List.countP_cons, decide_eq_true_eq]
    omega
  | a :: O, k + 1, o, x, h => by
    simp at h
    have ih := opn_set (x := x) h
    simp only [opn, List.set_cons_succ, List.countP_cons, decide_eq_true_eq] at *
    omega
section
variable {N j : Nat} {es : List Ed} {rest : List Nat} {V : List Vl} {S : List Bool} {O : List Int} {L : List Ent} {M : Vl} {nx : Nat}
theorem offL_len {e : Ed} : (offL V S e L nx).length ≤ L.length + 1 ∧ (offL V S e L nx).length + nx = L.length + offN V S e nx := by
  unfold offL offN
  split <;> simp <;> omega
theorem dec_opn {k : Nat} {e : Ed} {o : Int} (he : es[k]? = some e) (hO : O[k]? = some o) (ho : 0 < o) :
    (dec es V S (O, L, nx) k).2.1.length + opn (dec es V S (O, L, nx) k).1 ≤ L.length + opn O ∧ (dec es V S (O, L, nx) k).2.2 + opn (dec es V S (O, L, nx) k).1 ≤ nx + opn O := by
  have h1 := opn_set (x := o - 1) hO
  have h2 := offL_len (V := V) (S := S) (e := e) (L := L) (nx := nx)
  rw [if_pos ho] at h1
  unfold dec
  simp only [he, hO, Option.getD_some]
  split
  · rename_i hz
    rw [hz] at h1
    rw [if_neg (by omega)] at h1
    rw [hz]
    simp only
    omega
  · simp only
    split at h1 <;> omega
theorem Inv.fold : ∀ {l : List Nat} {O : List Int} {L : List Ent} {nx : Nat}, Inv N es j l V S O L M → (∀ e ∈ es, e.Ok N) → S.length = N → (∀ k ∈ l, k < es.length ∧ ∀ e, es[k]? = some e → vle M (ev (gv V) e)) →
    Inv N es j [] V S (l.foldl (dec es V S) (O, L, nx)).1 (l.foldl (dec es V S) (O, L, nx)).2.1 M ∧ (l.foldl (dec es V S) (O, L, nx)).2.1.length + opn (l.foldl (dec es V S) (O, L, nx)).1 ≤ L.length + opn O ∧ (l.foldl (dec es V S) (O, L, nx)).2.2 + opn (l.foldl (dec es V S) (O, L, nx)).1 ≤ nx + opn O
  | [], O, L, nx, h, _, _, _ => ⟨h, Nat.le_refl _, Nat.le_refl _⟩
  | k :: l, O, L, nx, h, hes, hS, hl => by
    obtain ⟨hk, hM⟩ := hl k (by simp)
    have h1 := h.decr (nx := nx) hes hS hk hM
    have he := List.getElem?_eq_getElem hk
    have hO := h.cnt k _ he
    obtain ⟨q1, q2⟩ := dec_opn (es := es) (V := V) (S := S) (L := L) (nx := nx) he hO (by rw [List.count_cons_self]; omega)
    have ih := Inv.fold (l := l) (O := (dec es V S (O, L, nx) k).1) (L := (dec es V S (O, L, nx) k).2.1) (nx := (dec es V S (O, L, nx) k).2.2) h1 hes hS (fun k' hk' => hl k' (by simp [hk']))
    simp only [List.foldl_cons]
    refine ⟨ih.1, ?_, ?_⟩
    · exact Nat.le_trans ih.2.1 q1
    · exact Nat.le_trans ih.2.2 q2
theorem min_le {x : Ent} {L L' : List Ent} (hm : IsMin x L) (hp : L.Perm (x :: L')) (hd : (L.map Ent.t).Nodup) : ∀ y ∈ L', vle x.v y.v := fun y hy => by
  refine bf_vle (hm.2 y (hp.mem_iff.2 (by simp [hy])) fun e => ?_)
  have := (hp.map Ent.t).nodup_iff.1 hd
  rw [List.map_cons, List.nodup_cons] at this
  exact this.1 (List.mem_map.2 ⟨y, hy, e⟩)
/-- The first candidate is taken; its node is settled. -/
theorem Inv.drop {L' : List Ent} {x : Ent} (h : Inv N es j [] V S O L M) (hm : IsMin x L) (hp : L.Perm (x :: L')) (hd : (L.map Ent.t).Nodup) (hs : S[x.node.toNat]? = some true) : Inv N es j [] V S O L' x.v := by
  have hx := h.que x hm.1
  have hle := min_le hm hp hd
  have hsub : ∀ y ∈ L', y ∈ L := fun y hy => hp.mem_iff.2 (by simp [hy])
  refine ⟨h.nV, fun i hi => ⟨(h.set_ i hi).1, (h.set_ i hi).2.trans hx.2.2.1⟩, h.unset, fun y hy => ?_, fun U hU hP => ⟨(h.low U hU hP).1, fun y hy => (h.low U hU hP).2 y (hsub y hy)⟩, h.cnt, fun k e he hj h0 => ?_⟩
  · obtain ⟨a1, a2, _, a4, a5⟩ := h.que y (hsub y hy)
    exact ⟨a1, a2, hle y hy, a4, a5⟩
  · rcases h.cov k e he hj h0 with h1 | h1 | ⟨y, h1, h2, h3⟩
    · exact .inl h1
    · exact .inr (.inl h1)
    · rcases List.mem_cons.1 (hp.mem_iff.1 h1) with rfl | h4
      · refine .inr (.inl ⟨by rw [← h2]; exact hs, ?_⟩)
        rw [← h2, ← h3]
        exact (h.set_ _ hs).2.trans hx.2.2.1
      · exact .inr (.inr ⟨y, h4, h2, h3⟩)
theorem gv_set {V : List Vl} {n i : Nat} {v : Vl} (hn : n < V.length) : gv (V.set n v) i = if i = n then v else gv V i := by
  unfold gv
  rw [List.getElem?_set]
  by_cases h : n = i
  · subst h; rw [if_pos rfl, if_pos rfl, if_pos hn]; rfl
  · rw [if_neg h, if_neg (fun e => h e.symm)]
theorem cntU_set {S : List Bool} {n : Nat} {e : Ed} (hn : S[n]? = some false) (ht : ∀ t ∈ e.ts, 0 ≤ t) : cntU S e = cntU (S.set n true) e + e.ts.count (n : Int) := by
  unfold cntU
  have hnl := (List.getElem?_eq_some_iff.1 hn).1
  generalize e.ts = ts at ht
  induction ts with
  | nil => rfl
  | cons t ts ih =>
    have iht := ih (fun t ht' => ht t (by simp [ht']))
    have ht0 := ht t (by simp)
    rw [List.countP_cons, List.countP_cons, List.count_cons]
    by_cases htn : t = (n : Int)
    · subst htn
      have e1 : uns S (n : Int) = true := by simp [uns, hn]
      have e2 : uns (S.set n true) (n : Int) = false := by simp [uns, hnl]
      simp only [e1, e2, beq_self_eq_true, if_true, Bool.false_eq_true, if_false]
      omega
    · have hne : ¬ n = t.toNat := by omega
      have e1 : uns (S.set n true) t = uns S t := by simp only [uns, List.getElem?_set, if_neg hne]
      rw [e1, if_neg (show ¬ (t == (n : Int)) = true by simpa using htn)]
      omega
/-- The first candidate is taken; its node is settled now. -/
theorem Inv.take {L' : List Ent} {x : Ent} {n : Nat} (h : Inv N es j [] V S O L M) (hes : ∀ e ∈ es, e.Ok N) (hV : V.length = N) (hS : S.length = N) (hm : IsMin x L) (hp : L.Perm (x :: L')) (hd : (L.map Ent.t).Nodup) (hxn : x.node = (n : Int)) (hs : S[n]? = some false)
    (hr : ∀ k e, es[k]? = some e → rest.count k = e.ts.count (n : Int)) : Inv N es j rest (V.set n x.v) (S.set n true) O L' x.v := by
  have hx := h.que x hm.1
  have hle := min_le hm hp hd
  have hsub : ∀ y ∈ L', y ∈ L := fun y hy => hp.mem_iff.2 (by simp [hy])
  have hnl := (List.getElem?_eq_some_iff.1 hs).1
  have hnV : n < V.length := by omega
  have hun : gv V n = vtop := h.unset n (by rw [hs]; simp)
  have hnew : ∀ i, gv (V.set n x.v) i = if i = n then x.v else gv V i := fun i => gv_set hnV
  have hSS : ∀ i, (S.set n true)[i]? = some true → i = n ∨ S[i]? = some true := fun i hi => by
    rw [List.getElem?_set] at hi
    by_cases e : n = i
    · exact .inl e.symm
    · rw [if_neg e] at hi; exact .inr hi
  have hSn : (S.set n true)[n]? = some true := by rw [List.getElem?_set, if_pos rfl, if_pos hnl]
  refine ⟨fun i => ?_, fun i hi => ?_, fun i hi => ?_, fun y hy => ?_, fun U hU hP => ⟨fun i => ?_, fun y hy => (h.low U hU hP).2 y (hsub y hy)⟩, fun k e he => ?_, fun k e he hj h0 => ?_⟩
  · rw [hnew]
    split
    · exact hx.2.2.2.2
    · exact h.nV i
  · rw [hnew]
    split
    · exact ⟨hx.2.2.2.1, vle.refl _⟩
    · rename_i hne
      rcases hSS i hi with h1 | h1
      · exact absurd h1 hne
      · exact ⟨(h.set_ i h1).1, (h.set_ i h1).2.trans hx.2.2.1⟩
  · rw [hnew]
    split
    · rename_i hi2
      subst hi2
      exact absurd hSn hi
    · rename_i hne
      refine h.unset i (fun h1 => hi ?_)
      rw [List.getElem?_set, if_neg (fun e => hne e.symm)]
      exact h1
  · obtain ⟨a1, a2, _, a4, a5⟩ := h.que y (hsub y hy)
    exact ⟨a1, a2, hle y hy, a4, a5⟩
  · rw [hnew]
    split
    · rename_i hi2
      subst hi2
      have := (h.low U hU hP).2 x hm.1
      rw [hxn] at this
      exact this
    · exact (h.low U hU hP).1 i
  · rw [h.cnt k e he, cntU_set hs (fun t ht => ((hes e (List.mem_of_getElem? he)).ts t ht).1), hr k e he]
    simp
  · have hc := h.cnt k e he
    rw [h0] at hc
    injection hc with hc
    have hc2 : cntU S e = 0 := by simp at hc; omega
    have hok := hes e (List.mem_of_getElem? he)
    have hno : ∀ t ∈ e.ts, t.toNat ≠ n := fun t ht e1 => by
      have := List.countP_eq_zero.1 hc2 t ht
      simp only [uns] at this
      rw [e1, hs] at this
      exact this rfl
    have hev : ev (gv (V.set n x.v)) e = ev (gv V) e := ev_congr fun t ht => by rw [hnew, if_neg (hno t ht)]
    rcases h.cov k e he hj h0 with h1 | ⟨h1, h2⟩ | ⟨y, h1, h2, h3⟩
    · exact .inl (by rw [hev]; exact h1)
    · have hne : e.hd.toNat ≠ n := fun e1 => by rw [e1, hs] at h1; simp at h1
      refine .inr (.inl ⟨?_, ?_⟩)
      · rw [List.getElem?_set, if_neg (fun e => hne e.symm)]; exact h1
      · rw [hev, hnew, if_neg hne]; exact h2
    · rcases List.mem_cons.1 (hp.mem_iff.1 h1) with rfl | h4
      · have e1 : e.hd.toNat = n := by rw [← h2, hxn]; rfl
        refine .inr (.inl ⟨by rw [e1]; exact hSn, ?_⟩)
        rw [hev, hnew, if_pos e1, ← h3]
        exact vle.refl _
      · exact .inr (.inr ⟨y, h4, h2, by rw [hev]; exact h3⟩)
/-- Nothing is left to take. -/
theorem Inv.done (h : Inv N es es.length [] V S O [] M) (hes : ∀ e ∈ es, e.Ok N) (hS : S.length = N) : Sol es (gv V) := by
  refine ⟨h.nV, fun e he => ?_, fun U hU hP => (h.low U hU hP).1⟩
  obtain ⟨k, hk⟩ := List.getElem?_of_mem he
  have hok := hes e he
  have hn := ev_nrm (e := e) h.nV hok.cost.1
  have hkl := (List.getElem?_eq_some_iff.1 hk).1
  by_cases hc : cntU S e = 0
  · rcases h.cov k e hk (fun _ => hkl) (by rw [h.cnt k e hk, hc]; rfl) with h1 | h1 | ⟨y, h1, _⟩
    · rw [hn.eq_top h1]; exact (h.nV _).le_top
    · exact h1.2
    · simp at h1
  · obtain ⟨t, ht, hu⟩ := List.countP_pos_iff.1 (Nat.pos_of_ne_zero hc)
    have htop : gv V t.toNat = vtop := h.unset _ (fun h1 => by simp [uns, h1] at hu)
    have : 1099511627776 ≤ (ev (gv V) e).c := by
      by_cases hl : (ev (gv V) e).c < 1099511627776
      · have := ev_fin h.nV hok.cost.1 hl ht
        rw [htop] at this
        exact absurd this (by decide)
      · omega
    rw [hn.eq_top this]
    exact (h.nV _).le_top
theorem gv_rep (N i : Nat) : gv (List.replicate N vtop) i = vtop := by
  unfold gv
  rw [List.getElem?_replicate]
  split <;> rfl
theorem Inv.start (N : Nat) (es : List Ed) : Inv N es 0 [] (List.replicate N vtop) (List.replicate N false) (es.map fun e => (e.ts.length : Int)) [] ⟨0, 0⟩ := by
  refine ⟨fun i => by rw [gv_rep]; exact Nrm.top, fun i hi => ?_, fun i _ => gv_rep _ _, by simp, fun U hU hP => ⟨fun i => by rw [gv_rep]; exact (hU i).le_top, by simp⟩, fun k e he => ?_, fun k e he hj h0 => ?_⟩
  · rw [List.getElem?_replicate] at hi
    split at hi <;> simp at hi
  · rw [List.getElem?_map, he]
    have : cntU (List.replicate N false) e = e.ts.length := by
      unfold cntU
      rw [List.countP_eq_length]
      intro t _
      simp only [uns, List.getElem?_replicate]
      split <;> rfl
    simp [this]
  · rw [List.getElem?_map, he] at h0
    simp at h0
    exact absurd (hj h0) (Nat.not_lt_zero _)
theorem Inv.skip (h : Inv N es j [] V S O L M) {e : Ed} (he : es[j]? = some e) (hts : e.ts ≠ []) : Inv N es (j + 1) [] V S O L M :=
  ⟨h.nV, h.set_, h.unset, h.que, h.low, h.cnt, fun k e' he' hj h0 => h.cov k e' he' (fun h1 => by
    have := hj h1
    by_cases hk : k = j
    · subst hk
      rw [he] at he'
      injection he' with he'
      subst he'
      exact absurd h1 hts
    · omega) h0⟩
theorem Inv.first (h : Inv N es j [] V S O L ⟨0, 0⟩) (hes : ∀ e ∈ es, e.Ok N) (hS : S.length = N) {e : Ed} (he : es[j]? = some e) : Inv N es (j + 1) [] V S O (offL V S e L nx) ⟨0, 0⟩ := by
  have hok := hes e (List.mem_of_getElem? he)
  have hn := ev_nrm (e := e) h.nV hok.cost.1
  obtain ⟨q1, q2, q3⟩ := h.offer (nx := nx) he hok hS (by have := hn.1; unfold Ordy at this; unfold vle; simp only; omega)
  refine ⟨h.nV, h.set_, h.unset, q1, q2, h.cnt, fun k e' he' hj h0 => ?_⟩
  by_cases hk : k = j
  · subst hk
    rw [he] at he'
    injection he' with he'
    subst he'
    exact q3
  · exact (h.cov k e' he' (fun h1 => by have := hj h1; omega) h0).more (fun x hx => offL_sub hx)
end
end Go.Proofs.Ytkeiakmfnammbaa
