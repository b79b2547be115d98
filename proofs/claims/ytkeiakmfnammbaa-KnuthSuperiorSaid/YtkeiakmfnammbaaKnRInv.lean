/- The reference's iteration: its measure, what it keeps. -/
import Derived.Test.YtkeiakmfnammbaaKnTails
import Derived.Test.YtkeiakmfnammbaaKnThe
namespace Go.Proofs.Ytkeiakmfnammbaa
open Go.RowKit

def rks (V : List Vl) : Nat := (V.map vrk).sum
def sumc : List Value → Nat
  | .int _ c :: .int _ s :: l => vrk ⟨c, s⟩ + sumc l
  | _ => 0
theorem sumc_vls : ∀ V : List Vl, sumc (vls V) = rks V
  | [] => rfl
  | v :: V => by
    have ih := sumc_vls V
    have e : vls (v :: V) = .int .i64 v.c :: .int .i64 v.s :: vls V := rfl
    rw [e]
    simp only [sumc, ih, rks, List.map_cons, List.sum_cons]
/-- The measure, read from memory. -/
def vmeas (w : World) (g : Nat) : Nat := match w.heap[g]? with
  | some (.cells cs _ _) => sumc cs.toList
  | _ => 0
theorem vmeas_eq {w : World} {g : Nat} {t : TypeId} {V : List Vl} (h : Blk w g t (vls V).toArray) : vmeas w g = rks V := by
  unfold Blk at h
  unfold vmeas
  rw [h]
  exact sumc_vls V
theorem rks_set : ∀ {V : List Vl} {n : Nat} {v u : Vl}, V[n]? = some v → vrk u < vrk v → rks (V.set n u) < rks V
  | [], _, _, _, h, _ => by simp at h
  | a :: V, 0, v, u, h, hl => by
    simp at h
    subst h
    simp only [rks, List.set_cons_zero, List.map_cons, List.sum_cons]
    omega
  | a :: V, n + 1, v, u, h, hl => by
    simp at h
    have ih := rks_set h hl
    simp only [rks, List.set_cons_succ, List.map_cons, List.sum_cons] at *
    omega
/-- What the iteration keeps. -/
structure RInv (es : List Ed) (V : List Vl) : Prop where
  nV : NrmF (gv V)
  low : ∀ U, NrmF U → PreFix es U → ∀ i, vle (U i) (gv V i)
theorem RInv.start (es : List Ed) (N : Nat) : RInv es (List.replicate N vtop) := ⟨fun i => by rw [gv_rep]; exact Nrm.top, fun U hU _ i => by rw [gv_rep]; exact (hU i).le_top⟩
theorem RInv.vord {es : List Ed} {V : List Vl} (h : RInv es V) : ∀ v ∈ V, Ordy v := fun v hv => by
  obtain ⟨i, hi⟩ := List.getElem?_of_mem hv
  have := (h.nV i).1
  unfold gv at this
  rw [hi] at this
  exact this
theorem RInv.put {es : List Ed} {V : List Vl} (h : RInv es V) {e : Ed} {n : Nat} (he : e ∈ es) (h0 : 0 ≤ e.cost) (hn : e.hd.toNat = n) (hl : n < V.length) : RInv es (V.set n (ev (gv V) e)) := by
  refine ⟨fun i => ?_, fun U hU hP i => ?_⟩
  · rw [gv_set hl]
    split
    · exact ev_nrm h.nV h0
    · exact h.nV i
  · rw [gv_set hl]
    split
    · rename_i e1
      subst e1
      have := hP e he
      rw [hn] at this
      exact this.trans (ev_mono hU h.nV h0 fun t _ => h.low U hU hP _)
    · exact h.low U hU hP i
theorem RInv.sol {es : List Ed} {V : List Vl} (h : RInv es V) (hp : PreFix es (gv V)) : Sol es (gv V) := ⟨h.nV, hp, h.low⟩
/-- The first k hyperedges undercut nothing. -/
def PreK (es : List Ed) (V : List Vl) (k : Nat) : Prop := ∀ j e, j < k → es[j]? = some e → vle (gv V e.hd.toNat) (ev (gv V) e)
theorem PreK.next {es : List Ed} {V : List Vl} {k : Nat} {e : Ed} (h : PreK es V k) (he : es[k]? = some e) (hv : vle (gv V e.hd.toNat) (ev (gv V) e)) : PreK es V (k + 1) := fun j e' hj he' => by
  by_cases hjk : j = k
  · subst hjk
    rw [he] at he'
    injection he' with he'
    subst he'
    exact hv
  · exact h j e' (by omega) he'
theorem PreK.all {es : List Ed} {V : List Vl} (h : PreK es V es.length) : PreFix es (gv V) := fun e he => by
  obtain ⟨k, hk⟩ := List.getElem?_of_mem he
  exact h k e (List.getElem?_eq_some_iff.1 hk).1 hk
/-- What a pass keeps: whether something has changed. -/
def PassS (b : Bool) (es : List Ed) (V0 V : List Vl) (k : Nat) : Prop := (b = false → V = V0 ∧ PreK es V k) ∧ (b = true → rks V < rks V0)
def PassE (b : Bool) (es : List Ed) (V : List Vl) : Prop := b = false → PreK es V es.length
theorem vlt_iff {a b : Vl} : vlt a.c a.s b.c b.s = true ↔ ¬ vle b a := by
  unfold vlt vle
  simp only [Bool.or_eq_true, decide_eq_true_eq, Bool.and_eq_true, beq_iff_eq]
  omega
theorem vlt_rk {a b : Vl} (ha : Ordy a) (hb : Ordy b) (h : vlt a.c a.s b.c b.s = true) : vrk a < vrk b := by
  refine vrk_lt ha hb ?_
  unfold vlt at h
  simp only [Bool.or_eq_true, decide_eq_true_eq, Bool.and_eq_true, beq_iff_eq] at h
  exact h
/-- The chosen hyperedges from k on, as the last loop finds them. -/
def choB (V : Nat → Vl) (es : List Ed) (k : Nat) (i : Nat) : Int := match (es.drop k).findIdx? (isC V i) with
  | some j => ((k + j : Nat) : Int)
  | none => -1
theorem choB_zero (V : Nat → Vl) (es : List Ed) (i : Nat) : choB V es 0 i = cho V es i := by
  unfold choB cho
  rw [List.drop_zero]
  cases es.findIdx? (isC V i) with
  | none => rfl
  | some j => simp
theorem choB_end (V : Nat → Vl) (es : List Ed) (i : Nat) : choB V es es.length i = -1 := by
  unfold choB
  simp
theorem choB_step {V : Nat → Vl} {es : List Ed} {k : Nat} {e : Ed} (h : es[k]? = some e) (i : Nat) : choB V es k i = if isC V i e = true then (k : Int) else choB V es (k + 1) i := by
  obtain ⟨hk, he⟩ := List.getElem?_eq_some_iff.1 h
  unfold choB
  rw [List.drop_eq_getElem_cons hk, he, List.findIdx?_cons]
  by_cases hc : isC V i e = true
  · simp [hc]
  · rw [if_neg hc, if_neg hc]
    cases (es.drop (k + 1)).findIdx? (isC V i) with
    | none => rfl
    | some j => simp; omega
def chB (V : Nat → Vl) (es : List Ed) (k N : Nat) : List Int := (List.range N).map (choB V es k)
theorem chB_len (V : Nat → Vl) (es : List Ed) (k N : Nat) : (chB V es k N).length = N := by simp [chB]
theorem chB_at {V : Nat → Vl} {es : List Ed} {k N i : Nat} (h : i < N) : (chB V es k N)[i]? = some (choB V es k i) := by simp [chB, h]
theorem chB_zero (V : Nat → Vl) (es : List Ed) (N : Nat) : chB V es 0 N = chs V es N := by
  unfold chB chs
  exact List.map_congr_left fun i _ => choB_zero V es i
theorem chB_end (V : Nat → Vl) (es : List Ed) (N : Nat) : chB V es es.length N = List.replicate N (-1) := by
  apply List.ext_getElem?
  intro i
  rw [List.getElem?_replicate]
  by_cases h : i < N
  · rw [chB_at h, if_pos h, choB_end]
  · rw [if_neg h, List.getElem?_eq_none (by rw [chB_len]; omega)]
theorem chB_same {V : Nat → Vl} {es : List Ed} {k N : Nat} {e : Ed} (h : es[k]? = some e) (hno : att V e = false) : chB V es k N = chB V es (k + 1) N := by
  unfold chB
  apply List.map_congr_left
  intro i _
  rw [choB_step h, if_neg]
  simp [isC, hno]
theorem chB_set {V : Nat → Vl} {es : List Ed} {N k n : Nat} {e : Ed} (h : es[k]? = some e) (hn : e.hd.toNat = n) (h2 : att V e = true) : (chB V es (k + 1) N).set n (k : Int) = chB V es k N := by
  apply List.ext_getElem?
  intro i
  rw [List.getElem?_set, chB_len]
  by_cases hi : i < N
  · rw [chB_at hi, chB_at hi, choB_step h]
    by_cases e1 : n = i
    · subst e1
      rw [if_pos rfl, if_pos hi, if_pos (by simp only [isC, hn, h2]; simp)]
    · rw [if_neg e1, if_neg]
      intro h4
      simp only [isC, Bool.and_eq_true, decide_eq_true_eq] at h4
      exact e1 (hn.symm.trans h4.1)
  · by_cases e1 : n = i
    · subst e1
      rw [if_pos rfl, if_neg hi, List.getElem?_eq_none (by rw [chB_len]; omega)]
    · rw [if_neg e1, List.getElem?_eq_none (by rw [chB_len]; omega), List.getElem?_eq_none (by rw [chB_len]; omega)]
end Go.Proofs.Ytkeiakmfnammbaa
