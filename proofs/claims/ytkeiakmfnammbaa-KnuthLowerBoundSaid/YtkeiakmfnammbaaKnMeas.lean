/- The measure of Solve's loop, read from memory; bounds that the invariant gives. -/
import Derived.Test.YtkeiakmfnammbaaKnUsp
namespace Go.Proofs.Ytkeiakmfnammbaa
open Go.RowKit

def posV : Value → Bool
  | .int _ o => decide (0 < o)
  | _ => false
def qlen (w : World) (q : Nat) : Nat := match w.cell? ⟨q, 1, none⟩ with
  | some (.slice _ n _) => n
  | _ => 0
def posn (w : World) (g : Nat) : Nat := match w.heap[g]? with
  | some (.cells cs _ _) => cs.toList.countP posV
  | _ => 0
def meas (w : World) (a : SA) : Nat := qlen w a.q + posn w a.oa
theorem meas_eq {w : World} {a : SA} {F : Nat → Prop} {V : List Vl} {S : List Bool} {O : List Int} {L : List Ent} {nx : Nat} (h : SM w a F V S O L nx) : meas w a = L.length + opn O := by
  have h1 : qlen w a.q = L.length := by
    obtain ⟨l, f, ⟨A, c, b, K, _⟩, _, hp, _⟩ := h.hQ.1
    have k1 := K.cell 1
    simp at k1
    unfold qlen
    rw [k1, ← hp.length_eq]
  have h2 : posn w a.oa = opn O := by
    have hO := h.kO.1
    unfold Blk at hO
    unfold posn opn
    rw [hO]
    simp only [ints, List.countP_map]
    rfl
  unfold meas
  omega
section
variable {N j nx : Nat} {es : List Ed} {V : List Vl} {S : List Bool} {O : List Int} {L : List Ent} {M : Vl}
theorem Inv.obd (h : Inv N es j [] V S O L M) (hl : O.length = es.length) (hes : ∀ e ∈ es, e.Ok N) : ∀ o ∈ O, 0 ≤ o ∧ o ≤ 1000 := fun o ho => by
  obtain ⟨k, hk⟩ := List.getElem?_of_mem ho
  have hkl := (List.getElem?_eq_some_iff.1 hk).1
  have he := List.getElem?_eq_getElem (show k < es.length by omega)
  have hc := h.cnt k _ he
  rw [hk] at hc
  injection hc with hc
  have h4 := (hes _ (List.mem_of_getElem? he)).few
  have h5 : cntU S es[k] ≤ es[k].ts.length := List.countP_le_length
  simp at hc
  omega
theorem Inv.vord (h : Inv N es j [] V S O L M) : ∀ v ∈ V, Ordy v := fun v hv => by
  obtain ⟨i, hi⟩ := List.getElem?_of_mem hv
  have := (h.nV i).1
  unfold gv at this
  rw [hi] at this
  exact this
end
theorem popq_first {w : World} {F : Nat → Prop} {base q nx ck : Nat} {L : List Ent} (h : QB w base q F L nx ck) (hL : L ≠ []) : ∃ m L', IsMin m L ∧ L.Perm (m :: L') := by
  obtain ⟨l, f, h1, h2, h3, h4, h5⟩ := h.1
  have hl : 0 < l.length := by rw [h3.length_eq]; exact List.length_pos_iff.2 hL
  have hm := List.getElem?_eq_getElem hl
  exact ⟨_, _, heap_min h4 h3 hm, h3.symm.trans (get_perm' hm)⟩
theorem opn_le (O : List Int) : opn O ≤ O.length := List.countP_le_length
end Go.Proofs.Ytkeiakmfnammbaa
