/- The state of a queue; New; Len. -/
import Derived.Test.YtkeiakmfnammbaaKqDown
namespace Go.Proofs.Ytkeiakmfnammbaa
open Go.RowKit

/-- Entries that a queue may hold: handles and times are different, and below the next ones. -/
structure QOk (L : List Ent) (nx ck : Nat) : Prop where
  hb : ∀ e ∈ L, e.h < nx
  tb : ∀ e ∈ L, e.t < ck
  td : (L.map Ent.t).Nodup
  len : L.length ≤ nx
  nxb : nx ≤ 100000000
  ckb : ck ≤ 100000000
/-- A queue that holds the entries L, in whatever order. -/
def PQ (w : World) (F : Nat → Prop) (q : Nat) (L : List Ent) (nx ck : Nat) : Prop :=
  ∃ l f, QM w F q l nx ck f ∧ Agree l f ∧ l.Perm L ∧ HeapOrd bf l ∧ QOk L nx ck
section
variable {F G : Nat → Prop} {w w' : World} {q nx ck : Nat} {L : List Ent}
theorem PQ.touch (h : PQ w F q L nx ck) (ht : Touch G w w') (hd : ∀ k, F k → ¬ G k) : PQ w' F q L nx ck := by
  obtain ⟨l, f, h1, h2⟩ := h
  exact ⟨l, f, h1.touch ht hd, h2⟩
theorem PQ.below (h : PQ w F q L nx ck) (hb : Below w.heap.size w w') : PQ w' F q L nx ck := by
  obtain ⟨l, f, h1, h2⟩ := h
  exact ⟨l, f, h1.below hb, h2⟩
theorem PQ.mono (h : PQ w F q L nx ck) (hF : ∀ k, F k → G k) : PQ w G q L nx ck := by
  obtain ⟨l, f, h1, h2⟩ := h
  exact ⟨l, f, h1.mono hF, h2⟩
theorem PQ.precise (h : PQ w F q L nx ck) : ∃ G : Nat → Prop, (∀ k, G k → F k ∧ k < w.heap.size) ∧ PQ w G q L nx ck := by
  obtain ⟨l, f, h1, h2⟩ := h
  obtain ⟨G, hG, h3⟩ := h1.precise
  exact ⟨G, hG, l, f, h3, h2⟩
theorem PQ.drewN (h : PQ w F q L nx ck) (n : Nat) : PQ (w.drewN n) F q L nx ck := h.below (below_drewN (Below.refl _ _) n)
theorem PQ.ok (h : PQ w F q L nx ck) : QOk L nx ck := by
  obtain ⟨l, f, h1, h2, h3, h4, h5⟩ := h
  exact h5
end
/-- What a call on a queue leaves. -/
def QPost (w : World) (F : Nat → Prop) (q : Nat) (L : List Ent) (nx ck : Nat) (w' : World) : Prop := ∃ G : Nat → Prop, PQ w' G q L nx ck ∧ Touch F w w' ∧ ∀ k, G k → F k ∨ w.heap.size ≤ k

theorem new_any (w : World) : Calls Try.prog 29 #[.func (.func 30) #[] #[]] w fun e w' => e = .returned (.pointer (some ⟨w.heap.size + 1, 0, none⟩)) ∧ PQ w' (fun k => w.heap.size ≤ k) (w.heap.size + 1) [] 0 0 ∧ Below w.heap.size w w' := by
  have hmm := @run_makeMap Try.prog
  go_enter Try.func29, Try.ntmps29
  go_wp2_with fail
  go_ret
  refine ⟨rfl, ⟨[], fun _ => none, ⟨none, 0, w.heap.size, Blk.new' (w.alloc _) _ _ (by simp), World.ownsRow_nil _ _ _ _, (MapI.made w).alloc _, by simp, Nat.le_refl _, by simp [Value.ownBlock]⟩, ⟨by simp, by simp⟩, List.Perm.refl _, fun k h0 hk => by simp at hk, ⟨by simp, by simp, by simp, by simp, by omega, by omega⟩⟩, ?_⟩
  exact ((Below.refl _ _).alloc (Nat.le_refl _) _).alloc (by simp) _
end Go.Proofs.Ytkeiakmfnammbaa
