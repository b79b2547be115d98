/- Rows of hyperedges: parts, a cost changed; append as an arm of a plain walk. -/
import Derived.Test.YtkeiakmfnammbaaKnLChosen
import Derived.OwnWalk
namespace Go.Proofs.Ytkeiakmfnammbaa
open Go.RowKit

section
variable {P : Program} (w : World)
theorem wpList_append_any {ops : Array Oper} {rest : List Oper} {o : Oper} {a : Act} {Q : Exit → Act → World → Prop} (hgd : o.guard = none) (s x : Operand) (t : TypeId)
    (ho : o.op = .call { callee := .builtin .append, args := #[s, x], argTypes := #[t, t] })
    (base : Nat) (e : TypeId) (i : TypeInfo) (z : Value) (size bytes : Nat) (ht : P.underlying t = some (.slice e)) (hi : P.info? e = some i) (hz : i.zero = some z)
    (hsize : i.size = size) (hby : i.bytes = bytes) (hzs : z.cells.size = size) (hsz : 0 < size)
    (v : Value) (n : Nat) (xs : List Value) (hs : a.eval s = v) (hown : w.ownsRow base e size v n xs)
    (B : Nat) (A : Option Addr) (m c : Nat) (news : List Value) (hx : a.eval x = .slice A m c) (hr : Reads w B size A m news) (h1 : ∀ u ∈ news, u.oneCell' = true)
    (h63 : n + m ≤ maxLen) (hbytes : (n + m) * bytes ≤ 140737488355328) (hbase : base ≤ w.heap.size)
    (h : ∀ v' w', w'.ownsRow base e size v' (n + m) (xs ++ news) → w.grownBy w' v.ownBlock → (v'.ownBlock = v.ownBlock ∨ v'.ownBlock = some w.heap.size) → wpList P ops Q rest (a.put o.dst v') w') : wpList P ops Q (o :: rest) a w :=
  wpList_plain hgd fun _ hK => wp_append_any w s x t ho base e i z size bytes ht hi hz hsize hby hzs hsz v n xs hs hown B A m c news hx hr h1 h63 hbytes hbase fun v' w' h2 h3 h4 => hK _ _ (h v' w' h2 h3 h4)
end
theorem Reads.take_ {w : World} {B size n j : Nat} {A : Option Addr} {xs : List Value} (h : Reads w B size A n xs) (hj : j ≤ n) : Reads w B size A j (xs.take (j * size)) := by
  refine ⟨by rw [List.length_take, h.1]; exact Nat.min_eq_left (Nat.mul_le_mul_right _ hj), fun h0 => ?_⟩
  obtain ⟨b, off, e, hb, hc⟩ := h.2 (by omega)
  refine ⟨b, off, e, hb, fun i u hu => hc i u ?_⟩
  rw [List.getElem?_take] at hu
  split at hu
  · exact hu
  · cases hu
theorem Reads.drop_ {w : World} {B size n j b off : Nat} {xs : List Value} (h : Reads w B size (some ⟨b, off, none⟩) n xs) (hj : j ≤ n) : Reads w B size (some ⟨b, off + j * size, none⟩) (n - j) (xs.drop (j * size)) := by
  refine ⟨by rw [List.length_drop, h.1, Nat.sub_mul], fun h0 => ?_⟩
  obtain ⟨b', off', e, hb, hc⟩ := h.2 (by omega)
  injection e with e
  injection e with e1 e2 _
  subst e1 e2
  refine ⟨b, off + j * size, rfl, hb, fun i u hu => ?_⟩
  rw [List.getElem?_drop] at hu
  have := hc _ u hu
  simpa [Nat.add_assoc] using this
theorem eds_take : ∀ (l : List Ed) (j : Nat), eds (l.take j) = (eds l).take (j * 5)
  | [], _ => by simp [eds]
  | _ :: _, 0 => by simp [eds]
  | x :: l, j + 1 => by
    have ih := eds_take l j
    have e1 : eds (x :: l) = x.cells ++ eds l := by simp [eds]
    have e2 : eds ((x :: l).take (j + 1)) = x.cells ++ eds (l.take j) := by simp [eds]
    have hx : x.cells.length = 5 := rfl
    rw [e1, e2, ih, show (j + 1) * 5 = x.cells.length + j * 5 by rw [hx]; omega, List.take_length_add_append]
theorem eds_drop : ∀ (l : List Ed) (j : Nat), eds (l.drop j) = (eds l).drop (j * 5)
  | [], _ => by simp [eds]
  | _ :: _, 0 => by simp [eds]
  | x :: l, j + 1 => by
    have ih := eds_drop l j
    have e1 : eds (x :: l) = x.cells ++ eds l := by simp [eds]
    have hx : x.cells.length = 5 := rfl
    rw [e1, List.drop_succ_cons, ih, show (j + 1) * 5 = x.cells.length + j * 5 by rw [hx]; omega, List.drop_length_add_append]
/-- A hyperedge of another cost. -/
def Ed.wc (e : Ed) (q : Int) : Ed := ⟨e.hd, e.ts, q, e.l0, e.l1, e.A, e.c⟩
theorem eds_wc : ∀ (l : List Ed) (k : Nat) (e : Ed) (q : Int), l[k]? = some e → (eds l).set (k * 5 + 2) (.int .i64 q) = eds (l.set k (e.wc q))
  | [], _, _, _, h => by simp at h
  | x :: l, 0, e, q, h => by
    simp at h
    subst h
    simp [eds, Ed.cells, Ed.wc]
  | x :: l, k + 1, e, q, h => by
    have ih := eds_wc l k e q (by simpa using h)
    have e1 : eds (x :: l) = x.cells ++ eds l := by simp [eds]
    have e2 : eds ((x :: l).set (k + 1) (e.wc q)) = x.cells ++ eds (l.set k (e.wc q)) := by simp [eds]
    have hx : x.cells.length = 5 := rfl
    rw [e1, e2, ← ih, List.set_append_right _ _ (by omega), hx]
    congr 2
    omega
theorem own_form' {w : World} {base n c : Nat} {A : Option Addr} {L : List Ed} (h : w.ownsRow base 43 5 (.slice A n c) n (eds L)) (hn : 0 < n) : ∃ g cur, A = some ⟨g, 0, none⟩ ∧ Blk w g 43 cur ∧ n ≤ c ∧ base ≤ g := by
  rcases h.2 with ⟨hv, h0⟩ | ⟨g, cap, cur, hv, hb, hg, h1, _⟩
  · omega
  · injection hv with h2 h3 h4
    subst h2 h4
    exact ⟨g, cur, rfl, hg, h1, hb⟩
/-- A row of the call's own, whose tails lie where others' do. -/
theorem HG.of_own' {w : World} {base c B : Nat} {A : Option Addr} {L : List Ed} (h : w.ownsRow base 43 5 (.slice A L.length c) L.length (eds L)) (hB : B ≤ w.heap.size) (hs : ∀ e ∈ L, Reads w B 1 e.A e.ts.length (ints e.ts)) : HG w w.heap.size A L.length L :=
  ⟨Reads.of_own h, fun e he => (hs e he).more hB⟩
/-- The hyperedges with one cost raised, and without one. -/
theorem up_mem {es : List Ed} {k : Nat} {e : Ed} {q : Int} (he : es[k]? = some e) {x : Ed} (hx : x ∈ es.set k (e.wc q)) : x = e.wc q ∨ x ∈ es := by
  rcases List.mem_or_eq_of_mem_set hx with h | h
  · exact .inr h
  · exact .inl h
theorem less_mem {es : List Ed} {k : Nat} {e : Ed} {q : Int} (he : es[k]? = some e) {x : Ed} (hx : x ∈ es.take k ++ es.drop (k + 1)) : x ∈ es.set k (e.wc q) ∧ x ∈ es := by
  have hk := (List.getElem?_eq_some_iff.1 he).1
  rcases List.mem_append.1 hx with h | h
  · refine ⟨?_, List.mem_of_mem_take h⟩
    obtain ⟨j, hj⟩ := List.getElem?_of_mem h
    rw [List.getElem?_take] at hj
    split at hj
    · rename_i hjk
      refine List.mem_of_getElem? (i := j) ?_
      rw [List.getElem?_set, if_neg (by omega)]
      exact hj
    · cases hj
  · refine ⟨?_, List.mem_of_mem_drop h⟩
    obtain ⟨j, hj⟩ := List.getElem?_of_mem h
    rw [List.getElem?_drop] at hj
    refine List.mem_of_getElem? (i := k + 1 + j) ?_
    rw [List.getElem?_set, if_neg (by omega)]
    exact hj
theorem Sol.up {es : List Ed} {V V' : Nat → Vl} {k : Nat} {e : Ed} {q : Int} {N : Nat} (h : Sol es V) (h' : Sol (es.set k (e.wc q)) V') (hes : ∀ e ∈ es, e.Ok N) (he : es[k]? = some e) (hq : e.cost ≤ q) (i : Nat) : vle (V i) (V' i) :=
  h.raise h' (fun x hx => by
    rcases up_mem he hx with rfl | hm
    · exact ⟨e, List.mem_of_getElem? he, rfl, rfl, (hes e (List.mem_of_getElem? he)).cost.1, hq⟩
    · exact ⟨x, hm, rfl, rfl, (hes x hm).cost.1, Int.le_refl _⟩) i
end Go.Proofs.Ytkeiakmfnammbaa
