/- The queue's functions as the solver uses them. -/
import Derived.Test.YtkeiakmfnammbaaKqPop
import Derived.Test.YtkeiakmfnammbaaKqPush
namespace Go.Proofs.Ytkeiakmfnammbaa
open Go.RowKit

theorem uniq_map {α β : Type} {f : α → β} {l : List α} (h : (l.map f).Nodup) {a b : α} (ha : a ∈ l) (hb : b ∈ l) (e : f a = f b) : a = b := by
  obtain ⟨i, hi⟩ := List.getElem?_of_mem ha
  obtain ⟨j, hj⟩ := List.getElem?_of_mem hb
  have a1 : (l.map f)[i]? = some (f a) := by rw [List.getElem?_map, hi]; rfl
  have a2 : (l.map f)[j]? = some (f a) := by rw [List.getElem?_map, hj, e]; rfl
  have hij := (List.getElem?_inj (List.getElem?_eq_some_iff.1 a1).1 h).1 (a1.trans a2.symm)
  subst hij
  rw [hi] at hj
  injection hj
theorem QOk.perm {L L' : List Ent} {nx ck : Nat} (h : QOk L nx ck) (hp : L.Perm L') : QOk L' nx ck :=
  ⟨fun e he => h.hb e (hp.mem_iff.2 he), fun e he => h.tb e (hp.mem_iff.2 he), (hp.map Ent.t).nodup_iff.1 h.td, by have := hp.length_eq; have := h.len; omega, h.nxb, h.ckb⟩
section
variable {w w' : World} {F G : Nat → Prop} {q nx ck base : Nat} {L L' : List Ent}
theorem PQ.perm (h : PQ w F q L nx ck) (hp : L.Perm L') : PQ w F q L' nx ck := by
  obtain ⟨l, f, h1, h2, h3, h4, h5⟩ := h
  exact ⟨l, f, h1, h2, h3.trans hp, h4, h5.perm hp⟩
theorem PQ.hd (h : PQ w F q L nx ck) : (L.map Ent.h).Nodup := by
  obtain ⟨l, f, h1, h2, h3, h4, h5⟩ := h
  refine (h3.map Ent.h).nodup_iff.1 ?_
  rw [List.nodup_iff_pairwise_ne, List.pairwise_iff_getElem]
  intro i j hi hj hij e
  simp at hi hj
  rw [List.getElem_map, List.getElem_map] at e
  have a1 := h2.to i _ (List.getElem?_eq_getElem hi)
  have a2 := h2.to j _ (List.getElem?_eq_getElem hj)
  rw [e, a2] at a1
  injection a1 with a1
  omega

/-- A queue whose blocks are just F, all of them from 'base' on. -/
def QB (w : World) (base q : Nat) (F : Nat → Prop) (L : List Ent) (nx ck : Nat) : Prop := PQ w F q L nx ck ∧ ∀ k, F k → base ≤ k ∧ k < w.heap.size
/-- What a call on a queue turns. -/
structure Step (base : Nat) (w : World) (F : Nat → Prop) (w' : World) (G : Nat → Prop) : Prop where
  touch : Touch F w w'
  new : ∀ k, G k → F k ∨ w.heap.size ≤ k
  below : base ≤ w.heap.size → Below base w w'
theorem QB.below (h : QB w base q F L nx ck) (hb : Below w.heap.size w w') : QB w' base q F L nx ck := ⟨h.1.below hb, fun k hk => ⟨(h.2 k hk).1, Nat.lt_of_lt_of_le (h.2 k hk).2 hb.size⟩⟩
theorem QB.drewN (h : QB w base q F L nx ck) (n : Nat) : QB (w.drewN n) base q F L nx ck := h.below (below_drewN (Below.refl _ _) n)
theorem QB.perm (h : QB w base q F L nx ck) (hp : L.Perm L') : QB w base q F L' nx ck := ⟨h.1.perm hp, h.2⟩
theorem QB.ok (h : QB w base q F L nx ck) : QOk L nx ck := h.1.ok
/-- A block that is not the queue's is kept while others are written. -/
theorem QB.far (h : QB w base q F L nx ck) {N : Nat → Prop} (ht : Touch N w w') (hN : ∀ k, F k → ¬ N k) : QB w' base q F L nx ck := ⟨h.1.touch ht hN, fun k hk => ⟨(h.2 k hk).1, Nat.lt_of_lt_of_le (h.2 k hk).2 ht.size⟩⟩
theorem QB.post {nx0 ck0 : Nat} {L0 : List Ent} (h : QB w base q F L0 nx0 ck0) (hp : QPost w F q L nx ck w') : ∃ G, QB w' base q G L nx ck ∧ Step base w F w' G := by
  obtain ⟨G0, h1, h2, h3⟩ := hp
  obtain ⟨G, hG, h4⟩ := h1.precise
  refine ⟨G, ⟨h4, fun k hk => ⟨?_, (hG k hk).2⟩⟩, h2, fun k hk => h3 k (hG k hk).1, fun hb => h2.toBelow (fun k hk => (h.2 k hk).1) hb⟩
  rcases h3 k (hG k hk).1 with h5 | h5
  · exact (h.2 k h5).1
  · obtain ⟨e, he⟩ : ∃ e, h.1 = e := ⟨_, rfl⟩
    obtain ⟨l, f, ⟨A, c, b, K, O, M, f1, _⟩, _⟩ := h.1
    have := (h.2 _ f1).1
    have := K.lt
    omega
/-- A block that is not the queue's. -/
def PB (w : World) (F : Nat → Prop) (g : Nat) (t : TypeId) (cs : Array Value) : Prop := Blk w g t cs ∧ ¬ F g
theorem PB.step {g : Nat} {t : TypeId} {cs : Array Value} (h : PB w F g t cs) (hs : Step base w F w' G) : PB w' G g t cs :=
  ⟨h.1.touch hs.touch h.2, fun hg => by rcases hs.new g hg with h1 | h1; exact h.2 h1; have := h.1.lt; omega⟩
theorem PB.below {g : Nat} {t : TypeId} {cs : Array Value} (h : PB w F g t cs) (hb : Below w.heap.size w w') : PB w' F g t cs := ⟨h.1.below hb h.1.lt, h.2⟩
theorem QB.new (h : QB w base q F L nx ck) (t : TypeId) (cs : Array Value) : PB (w.alloc (.cells cs t)) F w.heap.size t cs := ⟨Blk.new' w _ _ rfl, fun hf => by have := (h.2 _ hf).2; omega⟩
theorem QB.alloc (h : QB w base q F L nx ck) (o : Obj) : QB (w.alloc o) base q F L nx ck := h.below ((Below.refl _ _).alloc (Nat.le_refl _) _)

theorem newq_any (w : World) : Calls Try.prog 29 #[.func (.func 30) #[] #[]] w fun e w' => e = .returned (.pointer (some ⟨w.heap.size + 1, 0, none⟩)) ∧ (∃ F, QB w' w.heap.size (w.heap.size + 1) F [] 0 0) ∧ Below w.heap.size w w' :=
  (new_any w).mono fun e w' ⟨h1, h2, h3⟩ => by
    obtain ⟨G, hG, h4⟩ := h2.precise
    exact ⟨h1, ⟨G, h4, hG⟩, h3⟩
theorem pushq_any (x0 x1 x2 : Int) (h : QB w base q F L nx ck) (hnx : nx < 100000000) (hck : ck < 100000000) :
    Calls Try.prog 37 #[.pointer (some ⟨q, 0, none⟩), .agg #[.int .i64 x0, .int .i64 x1, .int .i64 x2]] w fun e w' => e = .returned (.int .i64 nx) ∧ ∃ G, QB w' base q G (L ++ [⟨x0, x1, x2, nx, ck⟩]) (nx + 1) (ck + 1) ∧ Step base w F w' G :=
  (push_any w F q nx ck L x0 x1 x2 h.1 hnx hck).mono fun _ _ ⟨h1, h2⟩ => ⟨h1, h.post h2⟩
theorem popq_any (h : QB w base q F L nx ck) {m : Ent} (hm : IsMin m L) (hp : L.Perm (m :: L')) :
    Calls Try.prog 32 #[.pointer (some ⟨q, 0, none⟩)] w fun e w' => e = .returned (.tuple #[.agg #[.int .i64 m.node, .int .i64 m.cost, .int .i64 m.size], .bool true]) ∧ ∃ G, QB w' base q G L' nx ck ∧ Step base w F w' G :=
  (pop_some w F q nx ck L h.1 (fun e => by rw [e] at hm; simpa using hm.1)).mono fun _ _ ⟨m', L2, h1, h2, h3, h4⟩ => by
    obtain rfl := h1.uniq hm h.ok.td
    obtain ⟨G, h5, h6⟩ := h.post h4
    exact ⟨h3, G, h5.perm ((h2.symm.trans hp).cons_inv), h6⟩
theorem popq_none (h : QB w base q F [] nx ck) :
    Calls Try.prog 32 #[.pointer (some ⟨q, 0, none⟩)] w fun e w' => e = .returned (.tuple #[.agg #[.int .i64 0, .int .i64 0, .int .i64 0], .bool false]) ∧ Below w.heap.size w w' := pop_none w F q nx ck h.1
end
end Go.Proofs.Ytkeiakmfnammbaa
