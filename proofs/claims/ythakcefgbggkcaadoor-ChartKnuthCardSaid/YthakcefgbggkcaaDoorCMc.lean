/- The queue: its order, its swaps. -/
import Derived.Test.YthakcefgbggkcaaDoorCMa
import Derived.Maps.OwnSet
import Derived.Deep.DeepCutAuto
import Derived.Deep.CutBlock
namespace Go.Proofs.YthakcefgbggkcaaDoor
open Go.RowKit Go.ChangeMaps Go.MapKept Go.WideShapes Go.Maps
open Go.WideElems (Fit rd rg pl rd_val)

/-- The datum is the function f. -/
def FunOf (D : DataW Unit) (f : Int → Option Nat) : Prop :=
  IsMap D ∧ ∀ k : Int, Maps.has D (.int .i64 k) = (f k).isSome ∧ D.atKey (.int .i64 k) (.lit (.int .i64 0)) = .lit (.int .i64 ((f k).getD 0 : Nat))
/-- Block b is a map of at most n entries: the function f. -/
def MapI (w : World) (b n : Nat) (f : Int → Option Nat) : Prop :=
  ∃ D : DataW Unit, w.ownsMap Tryd.prog 3 (plainElem Tryd.prog 3) b n D ∧ FunOf D f

theorem intK : Keyed Tryd.prog 3 := int_keyed Tryd.underlying3
theorem zeroI (w : World) : (zeroValue 3).run Tryd.prog w = .ok (.int .i64 0) w := by kernel_rfl
theorem keyI {k : Int} (h : (Lit.int .i64 k).wf = true) : keyOf Tryd.prog 3 (.int .i64 k) = some (.int .i64 k) := keyOf_int_mk Tryd.underlying3 h
theorem wfN {n : Nat} (h : n ≤ 9000000000000000000) : (Lit.int .i64 (n : Int)).wf = true := by
  simp [Lit.wf, IntKind.min, IntKind.max, IntKind.signed, IntKind.bits]
  omega

/-- f with k sent to v. -/
def fput (f : Int → Option Nat) (k : Int) (v : Nat) : Int → Option Nat := fun x => if x = k then some v else f x
/-- f without k. -/
def fdel (f : Int → Option Nat) (k : Int) : Int → Option Nat := fun x => if x = k then none else f x

theorem keyLit (k : Int) : WideAt.IsKeyLit (.int .i64 k) := trivial
theorem lit_ne {x k : Int} (h : x ≠ k) : (Lit.int .i64 x) ≠ .int .i64 k := fun e => h (by injection e)
theorem FunOf.put {D : DataW Unit} {f : Int → Option Nat} (h : FunOf D f) (k : Int) (v : Nat) : FunOf (D.put (.int .i64 k) (.lit (.int .i64 v))) (fput f k v) := by
  refine ⟨h.1.put _ _, fun x => ?_⟩
  by_cases e : x = k
  · subst e
    rw [has_put_same h.1 (keyLit x), atKey_put_same h.1 (keyLit x)]
    simp [fput]
  · rw [has_put_other (lit_ne e), atKey_put_other (lit_ne e)]
    simp only [fput, if_neg e]
    exact h.2 x
theorem FunOf.del {D : DataW Unit} {f : Int → Option Nat} (h : FunOf D f) (k : Int) : FunOf (D.del (.int .i64 k)) (fdel f k) := by
  refine ⟨h.1.del _, fun x => ?_⟩
  by_cases e : x = k
  · subst e
    rw [has_del_same, atKey_del_same]
    simp [fdel]
  · rw [has_del_other (lit_ne e), atKey_del_other (lit_ne e)]
    simp only [fdel, if_neg e]
    exact h.2 x

theorem own_size {w : World} {b n : Nat} {D : DataW Unit} (h : w.ownsMap Tryd.prog 3 (plainElem Tryd.prog 3) b n D) : w.ownsMap Tryd.prog 3 (plainElem Tryd.prog 3) b (Maps.size D) D := by
  obtain ⟨es, clock, hb, F, _, hD⟩ := h
  refine ⟨es, clock, hb, F, ?_, hD⟩
  rw [hD]
  simp [Maps.size, length_sorted]

/-- Among different stamps each is found where it stands. -/
theorem born_at : ∀ {l : List MapEntry}, (l.map (·.born)).Nodup → ∀ {j : Nat} {e : MapEntry}, l[j]? = some e → l.findIdx? (fun x => (x.born : Int) == (e.born : Int)) = some j
  | [], _, _, _, h => by simp at h
  | a :: r, hn, 0, e, h => by
    simp at h
    subst h
    simp [List.findIdx?_cons]
  | a :: r, hn, j + 1, e, h => by
    simp at h hn
    have hne : ((a.born : Int) == (e.born : Int)) = false := by
      rw [beq_eq_false_iff_ne]
      intro he
      exact hn.1 e (List.mem_of_getElem? h) (by omega)
    have ih := born_at (by simpa using hn.2) h
    rw [List.findIdx?_cons, hne]
    simp [ih]
theorem modify_at {α : Type} {f g : α → α} {l : Array α} {j : Nat} {a : α} (h : l[j]? = some a) (hfg : f a = g a) : l.modify j f = l.modify j g := by
  apply Array.ext_getElem?
  intro i
  rw [Array.getElem?_modify, Array.getElem?_modify]
  by_cases e : j = i
  · subst e
    rw [if_pos rfl, if_pos rfl, h]
    simp [hfg]
  · rw [if_neg e, if_neg e]
theorem modify_id {α : Type} {f : α → α} {l : Array α} {j : Nat} {a : α} (h : l[j]? = some a) (hf : f a = a) : l.modify j f = l := by
  apply Array.ext_getElem?
  intro i
  rw [Array.getElem?_modify]
  by_cases e : j = i
  · subst e
    rw [if_pos rfl, h]
    simp [hf]
  · rw [if_neg e]
theorem setBlock_id {w : World} {b : Nat} {es : Array MapEntry} {c : Nat} (h : w.heap[b]? = some (.map es c)) : setBlock w b (.map es c) = w := by
  have e : w.heap.setIfInBounds b (.map es c) = w.heap := by
    apply Array.ext_getElem?
    intro i
    by_cases hi : i = b
    · subst hi
      exact (heap_setBlock_same h _).trans h.symm
    · exact heap_setBlock_other h _ hi
  unfold setBlock
  rw [e]

section
variable {w w' : World} {b n : Nat} {f : Int → Option Nat}
theorem MapI.lt (h : MapI w b n f) : b < w.heap.size := let ⟨_, h1, _⟩ := h; h1.lt
theorem MapI.mono (h : MapI w b n f) {n' : Nat} (hn : n ≤ n') : MapI w b n' f := let ⟨D, h1, h2⟩ := h; ⟨D, h1.mono hn, h2⟩
theorem MapI.made (w : World) : MapI (w.alloc (.map #[] 0)) w.heap.size 0 fun _ => none :=
  ⟨.map [], World.ownsMap_made _ _ _ _, isMap_empty, fun _ => ⟨rfl, rfl⟩⟩
theorem MapI.keep (h : MapI w b n f) (hb : w'.heap[b]? = w.heap[b]?) : MapI w' b n f := by
  obtain ⟨D, ⟨es, clock, h1, h2⟩, h3⟩ := h
  exact ⟨D, ⟨es, clock, hb.trans h1, h2⟩, h3⟩
theorem MapI.drewN (h : MapI w b n f) (k : Nat) : MapI (w.drewN k) b n f := h
theorem MapI.drew (h : MapI w b n f) : MapI w.drew b n f := h
theorem MapI.alloc (h : MapI w b n f) (o : Obj) : MapI (w.alloc o) b n f := h.keep (Below.heap_alloc w o b h.lt)
theorem MapI.setCell (h : MapI w b n f) {p : Addr} (hp : b ≠ p.block) (u : Value) : MapI (w.setCell p u) b n f := h.keep (Below.heap_setCell w p u b hp)
theorem MapI.ne_blk {g : Nat} {t : TypeId} {cs : Array Value} (h : MapI w b n f) (hg : Blk w g t cs) : b ≠ g := by
  rintro rfl
  obtain ⟨D, ⟨es, clock, h1, _⟩, _⟩ := h
  unfold Blk at hg
  rw [h1] at hg
  injection hg with hg
  cases hg
theorem MapI.ne_own {base : Nat} {e : TypeId} {size m : Nat} {v : Value} {xs : List Value} (h : MapI w b n f) (ho : w.ownsRow base e size v m xs) : v.ownBlock ≠ some b := by
  rcases ho.2 with ⟨rfl, _⟩ | ⟨g', cap, cur, rfl, _, hh, _⟩
  · simp [Value.ownBlock]
  · intro he
    have : g' = b := by simpa [Value.ownBlock] using he
    subst this
    exact h.ne_blk (g := g') (t := e) (cs := cur) hh rfl

set_option maxRecDepth 100000 in
theorem MapI.look_ok (h : MapI w b n f) {k : Int} (hk : (Lit.int .i64 k).wf = true) :
    (Instr.lookup 101 (.map (some b)) (.int .i64 k) true).run Tryd.prog w = .ok (.tuple #[.int .i64 ((f k).getD 0 : Nat), .bool (f k).isSome]) w := by
  obtain ⟨D, h1, h2⟩ := h
  obtain ⟨v, ps, hrun, hv⟩ := h1.look_ok intK Tryd.underlying101 (zeroI w) (plainElem_int Tryd.underlying3 (by decide)) (keyI hk)
  obtain ⟨c, rfl, hc, _⟩ := plainElem_int_inv Tryd.underlying3 hv
  simp only [Prod.mk.injEq] at hc
  rw [(h2.2 k).2] at hc
  rw [hrun, (h2.2 k).1]
  injection hc.1 with hc
  injection hc with _ hc
  rw [hc]
set_option maxRecDepth 100000 in
theorem MapI.look (h : MapI w b n f) {k : Int} (hk : (Lit.int .i64 k).wf = true) :
    (Instr.lookup 101 (.map (some b)) (.int .i64 k) false).run Tryd.prog w = .ok (.int .i64 ((f k).getD 0 : Nat)) w := by
  obtain ⟨D, h1, h2⟩ := h
  obtain ⟨c, hrun, hc, _⟩ := h1.lookup_int intK Tryd.underlying101 Tryd.underlying3 (zeroI w) (keyI hk)
  rw [(h2.2 k).2] at hc
  rw [hrun]
  injection hc with hc
  injection hc with _ hc
  rw [hc]
theorem turned_block {w w' : World} {b : Nat} (h : w.mapTurned w' b) : (∀ i, i ≠ b → w'.heap[i]? = w.heap[i]?) ∧ w'.heap.size = w.heap.size ∧ w'.os = w.os ∧ w'.tape = w.tape ∧ w'.output = w.output := by
  obtain ⟨es, clock, es', clock', hb, rfl⟩ := h
  exact ⟨fun i hi => heap_setBlock_other hb _ hi, by simp [setBlock], rfl, rfl, rfl⟩
/-- A store at a new key, or at one that is there. -/
theorem MapI.put (h : MapI w b n f) {k : Int} (hk : (Lit.int .i64 k).wf = true) {v : Nat} (hv : v ≤ 9000000000000000000) (hn : n < maxLen) :
    ∃ w', (Instr.mapUpdate 101 (.map (some b)) (.int .i64 k) (.int .i64 v)).run Tryd.prog w = .ok () w' ∧ MapI w' b (if (f k).isSome then n else n + 1) (fput f k v) ∧ w.mapTurned w' b := by
  obtain ⟨D, h1, h2⟩ := h
  obtain ⟨w', hrun, h3, h4⟩ := h1.store intK Tryd.underlying101 hn (keyI hk) (plainElem_int Tryd.underlying3 (wfN hv))
  refine ⟨w', hrun, ⟨_, ?_, h2.put k v⟩, h4⟩
  have hs := h1.size_le
  have h5 := own_size h3
  rw [size_put (h1.tidy intK), (h2.2 k).1] at h5
  refine h5.mono ?_
  split <;> omega
theorem MapI.drop (h : MapI w b n f) {k : Int} (hk : (Lit.int .i64 k).wf = true) (ty : TypeId) :
    ∃ w', (Builtin.delete_ #[101, 3] ty #[.map (some b), .int .i64 k]).run Tryd.prog w = .ok (.tuple #[]) w' ∧ MapI w' b n (fdel f k) ∧ w.mapTurned w' b := by
  obtain ⟨D, h1, h2⟩ := h
  obtain ⟨w', hrun, h3, h4⟩ := h1.drop intK Tryd.underlying101 (keyI hk) ty
  exact ⟨w', hrun, ⟨_, h3, h2.del k⟩, h4⟩
/-- The entry of a key that is there, found; then written, in whatever world the map is as it was. -/
theorem MapI.entry (h : MapI w b n f) {k : Int} (hk : (Lit.int .i64 k).wf = true) (hf : (f k).isSome = true) (hn : n < maxLen) :
    ∃ (v0 : Value) (st : Nat), (Instr.mapEntry 101 (.map (some b)) (.int .i64 k)).run Tryd.prog w = .ok (.tuple #[v0, .int .i64 st]) w ∧
      ∀ (w2 : World) (v : Nat), w2.heap[b]? = w.heap[b]? → v ≤ 9000000000000000000 →
        ∃ w', (Instr.entryStore 101 (.map (some b)) (.int .i64 st) (.int .i64 v)).run Tryd.prog w2 = .ok () w' ∧ MapI w' b n (fput f k v) ∧ w2.mapTurned w' b := by
  have hm := h
  have hl := h.look_ok hk
  obtain ⟨D, ⟨es, clock, hb, F, hs, hD⟩, h2⟩ := h
  obtain ⟨s1, s2, _⟩ := F.stamped
  have ht : Tryd.prog.underlying 101 = some (.map 3 3) := Tryd.underlying101
  rcases intK.find w (keyI hk) es.toList F.keys with ⟨h1, _⟩ | ⟨j, e0, h1, hj, hk0⟩
  · exfalso
    rw [hf] at hl
    simp [Instr.lookup, run_underlying ht, MapKept.run_getObj_map hb, intK.check w _ (keyI hk), h1, Result.andThen] at hl
  · have hj' : es[j]? = some e0 := by simpa using hj
    have hsame : es.modify j (fun e => { e with key := .int .i64 k }) = es := modify_id hj' (by rw [← hk0])
    refine ⟨e0.val, e0.born, ?_, fun w2 v hw2 hv => ?_⟩
    · have := setBlock_id hb
      unfold setBlock at this
      simp [Instr.mapEntry, run_underlying ht, MapKept.run_getObj_map hb, intK.check w false (keyI hk), h1, hj', hk0, intK.stays w (keyI hk), hsame, MapKept.run_setObj_map _ hb, Result.andThen, this, goInt]
    · have hb2 := hw2.trans hb
      obtain ⟨w3, hrun, hM, hT⟩ := (hm.keep hw2).put hk hv hn
      rw [hf, if_pos rfl] at hM
      rcases intK.find w2 (keyI hk) es.toList F.keys with ⟨_, hno⟩ | ⟨j2, e2, h12, hj2, hk2⟩
      · exact absurd hk0 (hno e0 (List.mem_of_getElem? hj))
      · have hj2' : es[j2]? = some e2 := by simpa using hj2
        have hjj : j2 = j := by
          have hnd := F.stamped.2.2
          have a1 : (es.toList.map (·.key))[j2]? = some (.int .i64 k) := by rw [List.getElem?_map, hj2, Option.map_some, hk2]
          have a2 : (es.toList.map (·.key))[j]? = some (.int .i64 k) := by rw [List.getElem?_map, hj, Option.map_some, hk0]
          exact (List.getElem?_inj (List.getElem?_eq_some_iff.1 a1).1 hnd).1 (a1.trans a2.symm)
        subst hjj
        refine ⟨w3, ?_, hM, hT⟩
        rw [← hrun]
        have hidx : es.findIdx? (fun x => (x.born : Int) == (e0.born : Int)) = some j2 := by
          have := born_at s2 hj
          obtain ⟨l⟩ := es
          simpa using this
        have hmod : es.modify j2 (fun e => { e with val := .int .i64 v }) = es.modify j2 (fun e => { e with key := .int .i64 k, val := .int .i64 v }) := modify_at hj' (by rw [← hk0])
        simp [Instr.entryStore, Instr.mapUpdate, run_underlying ht, MapKept.run_getObj_map hb2, intK.check w2 false (keyI hk), h12, hj', hk0, intK.stays w2 (keyI hk), hidx, hmod, asInt, asIntOf, MapKept.run_setObj_map _ hb2, Result.andThen]
end
end Go.Proofs.YthakcefgbggkcaaDoor

namespace Go.Proofs.YthakcefgbggkcaaDoor
open Go.RowKit

theorem ents_put : ∀ (l : List Ent) (i : Nat) (e : Ent), i < l.length → ((((ents l).set (i * 3) (.int .i64 e.node)).set (i * 3 + 1) (.int .i64 (e.h : Nat))).set (i * 3 + 2) (.int .i64 (e.t : Nat))) = ents (l.set i e)
  | [], _, _, h => absurd h (Nat.not_lt_zero _)
  | x :: l, 0, e, _ => by simp [ents, Ent.cells]
  | x :: l, i + 1, e, h => by
    have ih := ents_put l i e (by simpa using h)
    have e1 : ents (x :: l) = x.cells ++ ents l := by simp [ents]
    have e2 : ents ((x :: l).set (i + 1) e) = x.cells ++ ents (l.set i e) := by simp [ents]
    have hx : x.cells.length = 3 := rfl
    have hs : ∀ (m : List Value) (j : Nat) (u : Value), (x.cells ++ m).set ((i + 1) * 3 + j) u = x.cells ++ m.set (i * 3 + j) u := fun m j u => by
      rw [List.set_append_right _ _ (by omega), hx]
      congr 2
      omega
    have hs0 : ∀ (m : List Value) (u : Value), (x.cells ++ m).set ((i + 1) * 3) u = x.cells ++ m.set (i * 3) u := fun m u => hs m 0 u
    rw [e1, e2, ← ih]
    simp only [hs, hs0]
/-- A new element and a new time; the handle stays. -/
theorem ents_putx : ∀ (l : List Ent) (i : Nat) (e : Ent), (∃ y, l[i]? = some y ∧ y.h = e.h) → (((ents l).set (i * 3) (.int .i64 e.node)).set (i * 3 + 2) (.int .i64 (e.t : Nat))) = ents (l.set i e)
  | [], _, _, h => by obtain ⟨y, h, _⟩ := h; simp at h
  | x :: l, 0, e, h => by
    obtain ⟨y, h, hh⟩ := h
    simp at h
    subst h
    simp [ents, Ent.cells, hh]
  | x :: l, i + 1, e, h => by
    have ih := ents_putx l i e (by simpa using h)
    have e1 : ents (x :: l) = x.cells ++ ents l := by simp [ents]
    have e2 : ents ((x :: l).set (i + 1) e) = x.cells ++ ents (l.set i e) := by simp [ents]
    have hx : x.cells.length = 3 := rfl
    have hs : ∀ (m : List Value) (j : Nat) (u : Value), (x.cells ++ m).set ((i + 1) * 3 + j) u = x.cells ++ m.set (i * 3 + j) u := fun m j u => by
      rw [List.set_append_right _ _ (by omega), hx]
      congr 2
      omega
    have hs0 : ∀ (m : List Value) (u : Value), (x.cells ++ m).set ((i + 1) * 3) u = x.cells ++ m.set (i * 3) u := fun m u => hs m 0 u
    rw [e1, e2, ← ih]
    simp only [hs, hs0]

/-- The row of the entries. -/
def OwnE (w : World) (A : Option Addr) (c : Nat) (l : List Ent) : Prop := w.ownsRow 0 114 3 (.slice A l.length c) l.length (ents l)
section
variable {w w' : World} {A : Option Addr} {c : Nat} {l : List Ent}
theorem OwnE.reads (h : OwnE w A c l) : Reads w w.heap.size 3 A l.length (ents l) := Reads.of_own h
theorem OwnE.form (h : OwnE w A c l) {i : Nat} (hi : i < l.length) : ∃ g cur, A = some ⟨g, 0, none⟩ ∧ Blk w g 114 cur := by
  rcases h.2 with ⟨hv, h0⟩ | ⟨g, cap, cur, hv, _, hg, _⟩
  · omega
  · injection hv with h1 h2 h3
    subst h1
    exact ⟨g, cur, rfl, hg⟩
theorem OwnE.at_ {g : Nat} (h : OwnE w (some ⟨g, 0, none⟩) c l) {k : Nat} {t : Ent} (ht : l[k]? = some t) : w.cell? ⟨g, k * 3, none⟩ = some (.int .i64 t.node) ∧ w.cell? ⟨g, k * 3 + 1, none⟩ = some (.int .i64 (t.h : Nat)) ∧ w.cell? ⟨g, k * 3 + 2, none⟩ = some (.int .i64 (t.t : Nat)) := by
  obtain ⟨b, off, t', e, _, ht', hc⟩ := h.reads.ent_at (List.getElem?_eq_some_iff.1 ht).1
  injection e with e
  injection e with e1 e2 _
  subst e1 e2
  rw [ht] at ht'
  injection ht' with ht'
  subst ht'
  simpa using hc
theorem OwnE.frozen {g : Nat} (h : OwnE w (some ⟨g, 0, none⟩) c l) (o : Nat) : w.frozen? ⟨g, o, none⟩ = false := by
  rcases h.2 with ⟨hv, _⟩ | ⟨g', cap, cur, hv, _, hg, _⟩
  · injection hv with h1; cases h1
  · injection hv with h1
    injection h1 with h1
    injection h1 with h1
    subst h1
    exact Blk.frozen (t := 114) (cs := cur) hg o
theorem own_setCell {base : Nat} {e : TypeId} {size n g c : Nat} {xs : List Value} (h : w.ownsRow base e size (.slice (some ⟨g, 0, none⟩) n c) n xs) (o : Nat) (u : Value) (ho : o < n * size) :
    (w.setCell ⟨g, o, none⟩ u).ownsRow base e size (.slice (some ⟨g, 0, none⟩) n c) n (xs.set o u) := by
  refine ⟨by rw [List.length_set]; exact h.1, ?_⟩
  rcases h.2 with ⟨hv, _⟩ | ⟨g', cap, cur, hv, hb, hg, h1, h2, h3, h4⟩
  · injection hv with h1; cases h1
  · injection hv with e1 e2 e3
    injection e1 with e1
    injection e1 with e1
    subst e1 e3
    refine .inr ⟨g, c, cur.setIfInBounds o u, rfl, hb, ?_, h1, h2, by simpa using h3, ?_⟩
    · exact (Blk.set_ (g := g) (t := e) (cs := cur) hg o u)
    · rw [← h4, Array.toList_setIfInBounds]
      apply List.ext_getElem?
      intro k
      simp only [List.getElem?_take, List.getElem?_set, List.length_take]
      have hsz : cur.toList.length = c * size := by simpa using h3
      have hle : n * size ≤ c * size := Nat.mul_le_mul_right _ h1
      by_cases e2 : o = k
      · subst e2
        simp [ho, hsz, Nat.min_eq_left hle, Nat.lt_of_lt_of_le ho hle]
      · simp [e2]
theorem OwnE.put {g : Nat} (h : OwnE w (some ⟨g, 0, none⟩) c l) {i : Nat} (hi : i < l.length) (e : Ent) : OwnE (((w.setCell ⟨g, i * 3, none⟩ (.int .i64 e.node)).setCell ⟨g, i * 3 + 1, none⟩ (.int .i64 (e.h : Nat))).setCell ⟨g, i * 3 + 2, none⟩ (.int .i64 (e.t : Nat))) (some ⟨g, 0, none⟩) c (l.set i e) := by
  have hm : i * 3 + 3 ≤ l.length * 3 := by have := Nat.mul_le_mul_right 3 (show i + 1 ≤ l.length from hi); omega
  unfold OwnE at h ⊢
  rw [List.length_set, ← ents_put l i e hi]
  exact own_setCell (own_setCell (own_setCell h _ _ (by omega)) _ _ (by omega)) _ _ (by omega)
theorem OwnE.putx {g : Nat} (h : OwnE w (some ⟨g, 0, none⟩) c l) {i : Nat} {y : Ent} (hy : l[i]? = some y) (e : Ent) (hh : y.h = e.h) : OwnE ((w.setCell ⟨g, i * 3, none⟩ (.int .i64 e.node)).setCell ⟨g, i * 3 + 2, none⟩ (.int .i64 (e.t : Nat))) (some ⟨g, 0, none⟩) c (l.set i e) := by
  have hi := (List.getElem?_eq_some_iff.1 hy).1
  have hm : i * 3 + 3 ≤ l.length * 3 := by have := Nat.mul_le_mul_right 3 (show i + 1 ≤ l.length from hi); omega
  unfold OwnE at h ⊢
  rw [List.length_set, ← ents_putx l i e ⟨y, hy, hh⟩]
  exact own_setCell (own_setCell h _ _ (by omega)) _ _ (by omega)
theorem OwnE.take (h : OwnE w A c l) {m : Nat} (hm : m ≤ l.length) : OwnE w A c (l.take m) := by
  unfold OwnE at h ⊢
  have hl : (l.take m).length = m := by rw [List.length_take]; omega
  have he : ents (l.take m) = (ents l).take (m * 3) := by
    have e1 : ents l = ents (l.take m) ++ ents (l.drop m) := by rw [← ents_append, List.take_append_drop]
    have e2 : (ents (l.take m)).length = m * 3 := by rw [ents_length, hl]
    rw [e1, ← e2, List.take_left]
  rw [hl]
  refine ⟨by rw [ents_length, hl], ?_⟩
  rcases h.2 with ⟨hv, h0⟩ | ⟨g, cap, cur, hv, hb, hg, h1, h2, h3, h4⟩
  · injection hv with e1 e2 e3
    subst e1 e3
    obtain rfl : m = 0 := by omega
    exact .inl ⟨rfl, rfl⟩
  · injection hv with e1 e2 e3
    subst e1 e3
    refine .inr ⟨g, c, cur, rfl, hb, hg, by omega, h2, h3, ?_⟩
    rw [he, ← h4, List.take_take]
    congr 1
    have := Nat.mul_le_mul_right 3 hm
    omega
end

/-- The queue's block, its row, its map; all of F. -/
def QM (w : World) (F : Nat → Prop) (cb q : Nat) (l : List Ent) (nx ck : Nat) (f : Int → Option Nat) : Prop :=
  ∃ A c b, Blk w q 104 #[.func (.func 44) #[] #[.pointer (some ⟨cb, 0, none⟩)], .slice A l.length c, .map (some b), .int .i64 nx, .int .i64 ck] ∧ OwnE w A c l ∧ MapI w b nx f ∧ F q ∧ F b ∧ ∀ k, (Value.slice A l.length c).ownBlock = some k → F k
/-- The map gives the places of the handles. -/
structure Agree (l : List Ent) (f : Int → Option Nat) : Prop where
  toF : ∀ (i : Nat) (e : Ent), l[i]? = some e → f (e.h : Int) = some i
  fro : ∀ (k : Int) (i : Nat), f k = some i → ∃ e, l[i]? = some e ∧ (e.h : Int) = k
section
variable {F G : Nat → Prop} {w w' : World} {cb q nx ck : Nat} {l : List Ent} {f : Int → Option Nat}
theorem QM.touch (h : QM w F cb q l nx ck f) (ht : Touch G w w') (hd : ∀ k, F k → ¬ G k) : QM w' F cb q l nx ck f := by
  obtain ⟨A, c, b, K, O, M, h1, h2, h3⟩ := h
  exact ⟨A, c, b, K.touch ht (hd _ h1), own_touch O ht (fun k hk => hd k (h3 k hk)), M.keep (ht.block b M.lt (hd b h2)), h1, h2, h3⟩
theorem QM.below (h : QM w F cb q l nx ck f) (hb : Below w.heap.size w w') : QM w' F cb q l nx ck f := h.touch (Touch.of_below (F := fun _ => False) hb) (fun _ _ h => h)
theorem QM.mono (h : QM w F cb q l nx ck f) (hF : ∀ k, F k → G k) : QM w G cb q l nx ck f := by
  obtain ⟨A, c, b, K, O, M, h1, h2, h3⟩ := h
  exact ⟨A, c, b, K, O, M, hF _ h1, hF _ h2, fun k hk => hF k (h3 k hk)⟩
theorem QM.precise (h : QM w F cb q l nx ck f) : ∃ G : Nat → Prop, (∀ k, G k → F k ∧ k < w.heap.size) ∧ QM w G cb q l nx ck f := by
  obtain ⟨A, c, b, K, O, M, h1, h2, h3⟩ := h
  exact ⟨fun k => F k ∧ k < w.heap.size, fun _ hk => hk, A, c, b, K, O, M, ⟨h1, K.lt⟩, ⟨h2, M.lt⟩, fun k hk => ⟨h3 k hk, own_lt O hk⟩⟩
theorem QM.drewN (h : QM w F cb q l nx ck f) (n : Nat) : QM (w.drewN n) F cb q l nx ck f := h.below (below_drewN (Below.refl _ _) n)
end
end Go.Proofs.YthakcefgbggkcaaDoor

namespace Go.Proofs.YthakcefgbggkcaaDoor
open Go.RowKit

theorem wpList_store_ent {ops : Array Oper} {rest : List Oper} {o : Oper} {a : Act} {Q : Exit → Act → World → Prop} {w : World} {g c : Nat} {l : List Ent} (hgd : o.guard = none) (p x : Operand) (hop : o.op = .store 114 p x)
    (O : OwnE w (some ⟨g, 0, none⟩) c l) (i : Nat) (hi : i < l.length) (e : Ent) (hp : a.eval p = .pointer (some ⟨g, i * 3, none⟩)) (hx : a.eval x = .agg #[.int .i64 e.node, .int .i64 (e.h : Nat), .int .i64 (e.t : Nat)])
    (h : ∀ w', OwnE w' (some ⟨g, 0, none⟩) c (l.set i e) → Touch (fun k => k = g) w w' → wpList Tryd.prog ops Q rest (a.put o.dst undef) w') : wpList Tryd.prog ops Q (o :: rest) a w := by
  refine wpList_plain hgd fun K hK => ?_
  obtain ⟨x0, x1, x2⟩ := O.at_ (List.getElem?_eq_getElem hi)
  have f0 := O.frozen (i * 3)
  have f1 := O.frozen (i * 3 + 1)
  have f2 := O.frozen (i * 3 + 2)
  have hT : Touch (fun k => k = g) w (((w.setCell ⟨g, i * 3, none⟩ (.int .i64 e.node)).setCell ⟨g, i * 3 + 1, none⟩ (.int .i64 (e.h : Nat))).setCell ⟨g, i * 3 + 2, none⟩ (.int .i64 (e.t : Nat))) := ((((Touch.refl (fun k => k = g) w).setCell (p := ⟨g, i * 3, none⟩) (.inl rfl) _).setCell (p := ⟨g, i * 3 + 1, none⟩) (.inl rfl) _).setCell (p := ⟨g, i * 3 + 2, none⟩) (.inl rfl) _)
  have h1 := h _ (O.put hi e) hT
  have h2 := hK _ _ h1
  clear h h1 hK
  unfold Oper.wp
  simp only [execOp, hop, hp, hx]
  go_simp
  exact h2

theorem keepT {w w' : World} {g q o : Nat} {v : Value} (h : w.cell? ⟨q, o, none⟩ = some v) (hne : g ≠ q) (T : Touch (fun k => k = g) w w') : w'.cell? ⟨q, o, none⟩ = some v :=
  (World.cell?_of_block (w := w) (a := ⟨q, o, none⟩) (T.block q (World.block_lt_of_cell? w _ h) (fun e => hne e.symm))).trans h
theorem drew_cell {w : World} {p : Addr} {v : Value} (h : w.cell? p = some v) : w.drew.cell? p = some v := h
theorem keepS {w : World} {g q o : Nat} {v : Value} (h : w.cell? ⟨q, o, none⟩ = some v) (hne : g ≠ q) {i : Nat} {e : Ent} : World.cell? (((w.setCell ⟨g, i * 3, none⟩ (.int .i64 e.node)).setCell ⟨g, i * 3 + 1, none⟩ (.int .i64 (e.h : Nat))).setCell ⟨g, i * 3 + 2, none⟩ (.int .i64 (e.t : Nat))) ⟨q, o, none⟩ = some v := by
  have T : Touch (fun k => k = g) w (((w.setCell ⟨g, i * 3, none⟩ (.int .i64 e.node)).setCell ⟨g, i * 3 + 1, none⟩ (.int .i64 (e.h : Nat))).setCell ⟨g, i * 3 + 2, none⟩ (.int .i64 (e.t : Nat))) := ((((Touch.refl (fun k => k = g) w).setCell (p := ⟨g, i * 3, none⟩) (.inl rfl) _).setCell (p := ⟨g, i * 3 + 1, none⟩) (.inl rfl) _).setCell (p := ⟨g, i * 3 + 2, none⟩) (.inl rfl) _)
  exact keepT h hne T
theorem OwnE.drew {w : World} {A : Option Addr} {c : Nat} {l : List Ent} (h : OwnE w A c l) : OwnE w.drew A c l := h
theorem Touch.drew1 {F : Nat → Prop} {w w' : World} (h : Touch F w w') : Touch F w w'.drew := h.drewN 1
theorem put_touch (w : World) (g i : Nat) (e : Ent) : Touch (fun k => k = g) w (((w.setCell ⟨g, i * 3, none⟩ (.int .i64 e.node)).setCell ⟨g, i * 3 + 1, none⟩ (.int .i64 (e.h : Nat))).setCell ⟨g, i * 3 + 2, none⟩ (.int .i64 (e.t : Nat))) := ((((Touch.refl (fun k => k = g) w).setCell (p := ⟨g, i * 3, none⟩) (.inl rfl) _).setCell (p := ⟨g, i * 3 + 1, none⟩) (.inl rfl) _).setCell (p := ⟨g, i * 3 + 2, none⟩) (.inl rfl) _)
theorem swap_row {w : World} {g c : Nat} {l : List Ent} {i j : Nat} {x y : Ent} (O : OwnE w (some ⟨g, 0, none⟩) c l) (hx : l[i]? = some x) (hy : l[j]? = some y) :
    OwnE (World.drew ((((((w.setCell ⟨g, i * 3, none⟩ (.int .i64 y.node)).setCell ⟨g, i * 3 + 1, none⟩ (.int .i64 (y.h : Nat))).setCell ⟨g, i * 3 + 2, none⟩ (.int .i64 (y.t : Nat))).setCell ⟨g, j * 3, none⟩ (.int .i64 x.node)).setCell ⟨g, j * 3 + 1, none⟩ (.int .i64 (x.h : Nat))).setCell ⟨g, j * 3 + 2, none⟩ (.int .i64 (x.t : Nat)))) (some ⟨g, 0, none⟩) c (swp l i j) ∧ Touch (fun k => k = g) w (World.drew ((((((w.setCell ⟨g, i * 3, none⟩ (.int .i64 y.node)).setCell ⟨g, i * 3 + 1, none⟩ (.int .i64 (y.h : Nat))).setCell ⟨g, i * 3 + 2, none⟩ (.int .i64 (y.t : Nat))).setCell ⟨g, j * 3, none⟩ (.int .i64 x.node)).setCell ⟨g, j * 3 + 1, none⟩ (.int .i64 (x.h : Nat))).setCell ⟨g, j * 3 + 2, none⟩ (.int .i64 (x.t : Nat)))) := by
  rw [swp_def hx hy]
  exact ⟨((O.put (List.getElem?_eq_some_iff.1 hx).1 y).put (i := j) (by rw [List.length_set]; exact (List.getElem?_eq_some_iff.1 hy).1) x).drew, ((put_touch w g i y).trans (put_touch _ g j x) (fun k h => .inl h)).drew1⟩
theorem turned_touch {w w' : World} {b : Nat} (h : w.mapTurned w' b) : Touch (fun k => k = b) w w' := by
  obtain ⟨h1, h2, h3, h4, h5⟩ := turned_block h
  exact ⟨h3, h4, h5, by omega, fun k _ hk => h1 k hk⟩
theorem Touch.undrew {F : Nat → Prop} {w w' : World} (h : Touch F w.drew w') : Touch F w w' := ⟨h.os, h.tape, h.output, h.size, h.block⟩
theorem swap_agree {l : List Ent} {f : Int → Option Nat} (h : Agree l f) {i j : Nat} {x y : Ent} (hx : l[i]? = some x) (hy : l[j]? = some y) : Agree (swp l i j) (fput (fput f (y.h : Int) i) (x.h : Int) j) := by
  have hil := (List.getElem?_eq_some_iff.1 hx).1
  have hjl := (List.getElem?_eq_some_iff.1 hy).1
  have fx := h.toF i x hx
  have fy := h.toF j y hy
  have at_ := swp_at hil hjl
  refine ⟨fun k e he => ?_, fun k m hk => ?_⟩
  · rw [at_] at he
    by_cases e1 : k = j
    · rw [if_pos e1, hx] at he
      injection he with he
      subst he e1
      simp [fput]
    · rw [if_neg e1] at he
      by_cases e2 : k = i
      · rw [if_pos e2, hy] at he
        injection he with he
        subst he e2
        have hne : (y.h : Int) ≠ (x.h : Int) := fun e => by rw [e, fx] at fy; injection fy with fy; exact e1 fy
        simp [fput, hne]
      · rw [if_neg e2] at he
        have fe := h.toF k e he
        have n1 : (e.h : Int) ≠ (x.h : Int) := fun q => by rw [q, fx] at fe; injection fe with fe; exact e2 fe.symm
        have n2 : (e.h : Int) ≠ (y.h : Int) := fun q => by rw [q, fy] at fe; injection fe with fe; exact e1 fe.symm
        simp only [fput, if_neg n1, if_neg n2]
        exact fe
  · simp only [fput] at hk
    by_cases e1 : k = (x.h : Int)
    · rw [if_pos e1] at hk
      injection hk with hk
      subst hk
      exact ⟨x, by rw [at_, if_pos rfl, hx], e1.symm⟩
    · rw [if_neg e1] at hk
      by_cases e2 : k = (y.h : Int)
      · rw [if_pos e2] at hk
        injection hk with hk
        subst hk
        have hij : i ≠ j := fun q => by
          subst q
          rw [hx] at hy
          injection hy with hy
          subst hy
          exact e1 e2
        exact ⟨y, by rw [at_, if_neg hij, if_pos rfl, hy], e2.symm⟩
      · rw [if_neg e2] at hk
        obtain ⟨e, he, hek⟩ := h.fro k m hk
        refine ⟨e, ?_, hek⟩
        have n1 : m ≠ j := fun q => by rw [q, hy] at he; injection he with he; subst he; exact e2 hek.symm
        have n2 : m ≠ i := fun q => by rw [q, hx] at he; injection he with he; subst he; exact e1 hek.symm
        rw [at_, if_neg n1, if_neg n2, he]

abbrev ldE (p : Operand) : Op := .load 114 p
theorem ldE_eq (p : Operand) : Op.load 114 p = ldE p := rfl

set_option maxRecDepth 100000 in
set_option maxHeartbeats 2000000 in
theorem swap_any (w : World) (cb q g c b nx ck : Nat) (l : List Ent) (f : Int → Option Nat) (i j : Nat) (x y : Ent) (K : Blk w q 104 #[.func (.func 44) #[] #[.pointer (some ⟨cb, 0, none⟩)], .slice (some ⟨g, 0, none⟩) l.length c, .map (some b), .int .i64 nx, .int .i64 ck])
    (O : OwnE w (some ⟨g, 0, none⟩) c l) (M : MapI w b nx f) (hA : Agree l f) (hx : l[i]? = some x) (hy : l[j]? = some y) (hn : nx ≤ 1000000000) (hll : l.length ≤ 1000000000) (hh : x.h ≤ 1000000000 ∧ y.h ≤ 1000000000) :
    Calls Tryd.prog 70 #[.pointer (some ⟨q, 0, none⟩), .int .i64 i, .int .i64 j] w fun e w' => ∃ v, e = .returned v ∧
      Blk w' q 104 #[.func (.func 44) #[] #[.pointer (some ⟨cb, 0, none⟩)], .slice (some ⟨g, 0, none⟩) (swp l i j).length c, .map (some b), .int .i64 nx, .int .i64 ck] ∧ OwnE w' (some ⟨g, 0, none⟩) c (swp l i j) ∧
      MapI w' b nx (fput (fput f (y.h : Int) i) (x.h : Int) j) ∧ Touch (fun k => k = g ∨ k = b) w w' := by
  have hil := (List.getElem?_eq_some_iff.1 hx).1
  have hjl := (List.getElem?_eq_some_iff.1 hy).1
  have q1 := K.cell 1
  have q2 := K.cell 2
  simp at q1 q2
  obtain ⟨x0, x1, x2⟩ := O.at_ hx
  obtain ⟨y0, y1, y2⟩ := O.at_ hy
  have hqg : q ≠ g := by
    obtain ⟨g', cur, e, hg⟩ := O.form hil
    injection e with e
    injection e with e
    subst e
    exact Blk.ne_ K hg (by decide)
  have hgq : g ≠ q := fun e => hqg e.symm
  have hbq : b ≠ q := M.ne_blk K
  have hbg : b ≠ g := fun e => M.ne_own O (by rw [e]; rfl)
  have HM := Lib.hid M
  have HK := Lib.hid K
  have HO0 := Lib.hid O
  have HA := Lib.hid hA
  have HX := Lib.hid hx
  have HY := Lib.hid hy
  have fi0 := O.frozen (i * 3)
  have fi1 := O.frozen (i * 3 + 1)
  have fi2 := O.frozen (i * 3 + 2)
  have fj0 := O.frozen (j * 3)
  have fj1 := O.frozen (j * 3 + 1)
  have fj2 := O.frozen (j * 3 + 2)
  have hgl : g < w.heap.size := World.block_lt_of_cell? w _ x0
  clear M K O hA hx hy
  go_enter Tryd.func70, Tryd.ntmps70
  go_upto_region 0 with fail
  go_cut [] (fun wx => OwnE wx (some ⟨g, 0, none⟩) c (swp l i j) ∧ Touch (fun k => k = g) w wx)
  case first =>
    by_cases hij : i = j
    · subst hij
      obtain rfl : x = y := by have := HX.out.symm.trans HY.out; injection this
      have HK0 := Lib.hid (show w.drew.cell? ⟨q, 1, none⟩ = some (.slice (some ⟨g, 0, none⟩) l.length c) from q1)
      have HK1 := Lib.hid (show (World.drew (((w.setCell ⟨g, i * 3, none⟩ (.int .i64 x.node)).setCell ⟨g, i * 3 + 1, none⟩ (.int .i64 (x.h : Nat))).setCell ⟨g, i * 3 + 2, none⟩ (.int .i64 (x.t : Nat)))).cell? ⟨q, 1, none⟩ = some (.slice (some ⟨g, 0, none⟩) l.length c) from drew_cell (keepS (i := i) (e := x) q1 hgq))
      have HK2 := Lib.hid (show (World.drew ((((((w.setCell ⟨g, i * 3, none⟩ (.int .i64 x.node)).setCell ⟨g, i * 3 + 1, none⟩ (.int .i64 (x.h : Nat))).setCell ⟨g, i * 3 + 2, none⟩ (.int .i64 (x.t : Nat))).setCell ⟨g, i * 3, none⟩ (.int .i64 x.node)).setCell ⟨g, i * 3 + 1, none⟩ (.int .i64 (x.h : Nat))).setCell ⟨g, i * 3 + 2, none⟩ (.int .i64 (x.t : Nat)))).cell? ⟨q, 1, none⟩ = some (.slice (some ⟨g, 0, none⟩) l.length c) from drew_cell (keepS (i := i) (e := x) (keepS (i := i) (e := x) q1 hgq) hgq))
      clear y0 fj0 y1 fj1 y2 fj2
      simp only [ldE_eq]
      go_region_held3 (fun w' => w'.cell? ⟨q, 1, none⟩ = some (.slice (some ⟨g, 0, none⟩) l.length c))
        (first | with_reducible exact HK0.out | with_reducible exact HK1.out | with_reducible exact HK2.out) (fail)
      all_goals
        go_wp2_with fail
        go_meet
        exact swap_row HO0.out HX.out HX.out
    · have hji : ¬ j = i := fun e => hij e.symm
      have n1a : ¬ i * 3 + 1 = j * 3 := by omega
      have n1b : ¬ i * 3 = j * 3 + 1 := by omega
      have n1c : ¬ j * 3 + 1 = i * 3 := by omega
      have n1d : ¬ j * 3 = i * 3 + 1 := by omega
      have n2a : ¬ i * 3 + 2 = j * 3 := by omega
      have n2b : ¬ i * 3 = j * 3 + 2 := by omega
      have n2c : ¬ j * 3 + 2 = i * 3 := by omega
      have n2d : ¬ j * 3 = i * 3 + 2 := by omega
      have HK0 := Lib.hid (show w.drew.cell? ⟨q, 1, none⟩ = some (.slice (some ⟨g, 0, none⟩) l.length c) from q1)
      have HK1 := Lib.hid (show (World.drew (((w.setCell ⟨g, i * 3, none⟩ (.int .i64 y.node)).setCell ⟨g, i * 3 + 1, none⟩ (.int .i64 (y.h : Nat))).setCell ⟨g, i * 3 + 2, none⟩ (.int .i64 (y.t : Nat)))).cell? ⟨q, 1, none⟩ = some (.slice (some ⟨g, 0, none⟩) l.length c) from drew_cell (keepS (i := i) (e := y) q1 hgq))
      have HK2 := Lib.hid (show (World.drew ((((((w.setCell ⟨g, i * 3, none⟩ (.int .i64 y.node)).setCell ⟨g, i * 3 + 1, none⟩ (.int .i64 (y.h : Nat))).setCell ⟨g, i * 3 + 2, none⟩ (.int .i64 (y.t : Nat))).setCell ⟨g, j * 3, none⟩ (.int .i64 x.node)).setCell ⟨g, j * 3 + 1, none⟩ (.int .i64 (x.h : Nat))).setCell ⟨g, j * 3 + 2, none⟩ (.int .i64 (x.t : Nat)))).cell? ⟨q, 1, none⟩ = some (.slice (some ⟨g, 0, none⟩) l.length c) from drew_cell (keepS (i := j) (e := x) (keepS (i := i) (e := y) q1 hgq) hgq))
      simp only [ldE_eq]
      go_region_held3 (fun w' => w'.cell? ⟨q, 1, none⟩ = some (.slice (some ⟨g, 0, none⟩) l.length c))
        (first | with_reducible exact HK0.out | with_reducible exact HK1.out | with_reducible exact HK2.out) (fail)
      all_goals
        go_wp2_with fail
        go_meet
        exact swap_row HO0.out HX.out HY.out
  case rest =>
    obtain ⟨O1, T1⟩ := hcut
    rename World => w1
    clear x0 x1 x2 y0 y1 y2 q1 q2
    have K1 := HK.out.touch T1 hqg
    have M1 := HM.out.keep (T1.block b HM.out.lt hbg)
    have at_ := swp_at hil hjl
    have hlj : (swp l i j)[j]? = some x := by rw [at_, if_pos rfl, HX.out]
    have hli : (swp l i j)[i]? = some y := by
      rw [at_]
      split
      · rename_i e; rw [e]; exact HY.out
      · rw [if_pos rfl, HY.out]
    obtain ⟨x0, x1, x2⟩ := O1.at_ hlj
    obtain ⟨y0, y1, y2⟩ := O1.at_ hli
    clear x0 x2 y0 y2 at_ hlj hli
    have fx := HA.out.toF i x HX.out
    have fy := HA.out.toF j y HY.out
    have hwx := wfN (n := x.h) (by omega)
    have hwy := wfN (n := y.h) (by omega)
    obtain ⟨v1, s1, hr1, hs1⟩ := (M1.drew).entry hwy (by rw [fy]; rfl) (by unfold maxLen; omega)
    obtain ⟨w4, hr2, M4, T4⟩ := hs1 w1.drew i rfl (by omega)
    obtain ⟨v2, s2, hr3, hs2⟩ := M4.entry hwx (by simp only [fput]; split; rfl; rw [fx]; rfl) (by unfold maxLen; omega)
    obtain ⟨w5, hr4, M5, T5⟩ := hs2 w4 j rfl (by omega)
    have k1 := K1.cell 1
    have k2 := K1.cell 2
    simp at k1 k2
    have h9 : ∀ w9 : World, (∀ p, p ≠ b → w9.heap[p]? = w1.heap[p]?) → w9.cell? ⟨q, 1, none⟩ = some (.slice (some ⟨g, 0, none⟩) l.length c) ∧ w9.cell? ⟨q, 2, none⟩ = some (.map (some b)) ∧ w9.cell? ⟨g, i * 3 + 1, none⟩ = some (.int .i64 (y.h : Nat)) ∧ w9.cell? ⟨g, j * 3 + 1, none⟩ = some (.int .i64 (x.h : Nat)) := fun w9 h =>
      ⟨(World.cell?_of_block (w := w1) (a := ⟨q, 1, none⟩) (h q (fun e => hbq e.symm))).trans k1, (World.cell?_of_block (w := w1) (a := ⟨q, 2, none⟩) (h q (fun e => hbq e.symm))).trans k2,
        (World.cell?_of_block (w := w1) (h g (fun e => hbg e.symm))).trans y1, (World.cell?_of_block (w := w1) (h g (fun e => hbg e.symm))).trans x1⟩
    have H9 := Lib.hid h9
    clear h9 hs1 hs2
    go_upto_region 1 with fail
    go_region_held3 (fun w' => w'.cell? ⟨q, 1, none⟩ = some (.slice (some ⟨g, 0, none⟩) l.length c) ∧ w'.cell? ⟨q, 2, none⟩ = some (.map (some b)) ∧ w'.cell? ⟨g, i * 3 + 1, none⟩ = some (.int .i64 (y.h : Nat)) ∧ w'.cell? ⟨g, j * 3 + 1, none⟩ = some (.int .i64 (x.h : Nat)))
      (first | exact H9.out _ (fun _ _ => rfl) | exact H9.out _ (turned_block T4).1 | exact H9.out _ (fun p hp => ((turned_block T5).1 p hp).trans ((turned_block T4).1 p hp))) (fail)
    go_wp2_with fail
    go_end0
    have T4' : Touch (fun k => k = b) w1 w4 := (turned_touch T4).undrew
    have T5' := turned_touch T5
    rw [swp_length]
    refine ⟨_, rfl, K1.touch (T4'.trans T5' (fun k h => .inl h)) (fun (e : q = b) => hbq e.symm), own_touch (own_touch O1 T4' ?_) T5' ?_, M5, ?_⟩
    · intro k hk hb
      simp [Value.ownBlock] at hk
      exact hbg (by omega)
    · intro k hk hb
      simp [Value.ownBlock] at hk
      exact hbg (by omega)
    · exact ((T1.mono (fun k h => .inl h)).trans (T4'.mono (fun k h => .inr h)) (fun k h => .inl h)).trans (T5'.mono (fun k h => .inr h)) (fun k h => .inl h)
end Go.Proofs.YthakcefgbggkcaaDoor

namespace Go.Proofs.YthakcefgbggkcaaDoor
open Go.RowKit

set_option maxRecDepth 100000 in
set_option maxHeartbeats 2000000 in
theorem before_any (w : World) (Z : Zq) (q g c nx ck : Nat) (mv : Value) (l : List Ent) (i j : Nat) (x y : Ent) (K : Blk w q 104 #[.func (.func 44) #[] #[.pointer (some ⟨Z.cb, 0, none⟩)], .slice (some ⟨g, 0, none⟩) l.length c, mv, .int .i64 nx, .int .i64 ck])
    (O : OwnE w (some ⟨g, 0, none⟩) c l) (HE : Env w Z) (hcx : Coh Z x) (hcy : Coh Z y) (hx : l[i]? = some x) (hy : l[j]? = some y) :
    Calls Tryd.prog 71 #[.pointer (some ⟨q, 0, none⟩), .int .i64 i, .int .i64 j] w fun e w' => e = .returned (.bool (bf x y)) ∧ Below w.heap.size w w' := by
  have hil := (List.getElem?_eq_some_iff.1 hx).1
  have hjl := (List.getElem?_eq_some_iff.1 hy).1
  have q1 := K.cell 1
  simp at q1
  have hql := K.lt
  obtain ⟨x0, x1, x2⟩ := O.at_ hx
  obtain ⟨y0, y1, y2⟩ := O.at_ hy
  have hgl : g < w.heap.size := World.block_lt_of_cell? w _ x0
  have K0 := Lib.hid K
  have HV := Lib.hid HE
  have HCX := Lib.hid hcx
  have HCY := Lib.hid hcy
  clear HE hcx hcy
  obtain ⟨r, hr⟩ : ∃ r, r = bf x y := ⟨_, rfl⟩
  rw [← hr]
  have HR := Lib.hid hr
  clear O hx hy hr
  go_enter Tryd.func71, Tryd.ntmps71
  go_upto_region 1 with fail
  go_cut [7, 8] (fun a7 a8 wx => ∃ g7 g8 : Nat, a7 = .pointer (some ⟨g7, 0, none⟩) ∧ a8 = .pointer (some ⟨g8, 0, none⟩) ∧ Blk wx g7 114 #[.int .i64 x.node, .int .i64 (x.h : Nat), .int .i64 (x.t : Nat)] ∧ Blk wx g8 114 #[.int .i64 y.node, .int .i64 (y.h : Nat), .int .i64 (y.t : Nat)] ∧ Below w.heap.size w wx)
  case first =>
    have h9 : ∀ w9, Below w.heap.size w w9 → w9.cell? ⟨q, 1, none⟩ = some (.slice (some ⟨g, 0, none⟩) l.length c) ∧ w9.cell? ⟨g, i * 3, none⟩ = some (.int .i64 x.node) ∧ w9.cell? ⟨g, i * 3 + 1, none⟩ = some (.int .i64 (x.h : Nat)) ∧ w9.cell? ⟨g, i * 3 + 2, none⟩ = some (.int .i64 (x.t : Nat)) ∧ w9.cell? ⟨g, j * 3, none⟩ = some (.int .i64 y.node) ∧ w9.cell? ⟨g, j * 3 + 1, none⟩ = some (.int .i64 (y.h : Nat)) ∧ w9.cell? ⟨g, j * 3 + 2, none⟩ = some (.int .i64 (y.t : Nat)) ∧ Below w.heap.size w w9 := fun w9 h => ⟨((bcell h).1 _ _ hql).trans q1, ((bcell h).1 _ _ hgl).trans x0, ((bcell h).1 _ _ hgl).trans x1, ((bcell h).1 _ _ hgl).trans x2, ((bcell h).1 _ _ hgl).trans y0, ((bcell h).1 _ _ hgl).trans y1, ((bcell h).1 _ _ hgl).trans y2, h⟩
    have H9 := Lib.hid h9
    clear h9
    go_region_held3 (fun w' => w'.cell? ⟨q, 1, none⟩ = some (.slice (some ⟨g, 0, none⟩) l.length c) ∧ w'.cell? ⟨g, i * 3, none⟩ = some (.int .i64 x.node) ∧ w'.cell? ⟨g, i * 3 + 1, none⟩ = some (.int .i64 (x.h : Nat)) ∧ w'.cell? ⟨g, i * 3 + 2, none⟩ = some (.int .i64 (x.t : Nat)) ∧ w'.cell? ⟨g, j * 3, none⟩ = some (.int .i64 y.node) ∧ w'.cell? ⟨g, j * 3 + 1, none⟩ = some (.int .i64 (y.h : Nat)) ∧ w'.cell? ⟨g, j * 3 + 2, none⟩ = some (.int .i64 (y.t : Nat)) ∧ Below w.heap.size w w')
      ((refine H9.out _ ?_; repeat (first | exact Below.refl _ _ | refine Below.drew ?_ | refine Below.alloc ?_ (by simp) _ | refine Below.setCell ?_ (by simp) _))) (fail)
    all_goals
      go_wp2_with fail
      go_meet
      first
        | exact ⟨_, _, rfl, rfl, (Blk.new' w _ _ rfl).alloc _, Blk.new' (w.alloc _) _ _ (by simp), (((Below.refl _ _).alloc (Nat.le_refl _) _).alloc (by simp) _).drew⟩
        | exact ⟨_, _, rfl, rfl, Blk.new' (w.alloc _) _ _ (by simp), (Blk.new' w _ _ rfl).alloc _, (((Below.refl _ _).alloc (Nat.le_refl _) _).alloc (by simp) _).drew⟩
  case rest =>
    obtain ⟨g7, g8, rfl, rfl, K7, K8, hb⟩ := hcut
    rename World => w1
    have K1 := K0.out.below hb hql
    have HV1 := Lib.hid (HV.out.below hb)
    clear HV
    clear x0 x1 x2 y0 y1 y2 q1
    obtain ⟨a0, ac, az, xh, xt⟩ := x
    obtain ⟨b0, bc, bz, yh, yt⟩ := y
    have q0 := ext_cell (K1.cell 0)
    have f0 := ext_cell (K7.cell 0)
    have f1 := ext_cell (K7.cell 1)
    have f2 := ext_cell (K7.cell 2)
    have e0 := ext_cell (K8.cell 0)
    have e1 := ext_cell (K8.cell 1)
    have e2 := ext_cell (K8.cell 2)
    clear K7 K8 K1 K0 K
    have L1 := fun u : Ext w1 => less_any Z ⟨a0, ac, az, xh, xt⟩ ⟨b0, bc, bz, yh, yt⟩ u.W (HV1.out.below u.h) HCX.out HCY.out
    simp only at L1
    have HL1 := Lib.hid L1
    clear L1
    cases h1 : lt ⟨a0, ac, az, xh, xt⟩ ⟨b0, bc, bz, yh, yt⟩ with
    | true =>
      rw [h1] at HL1
      go_wp2_with fail
      refine wp_region_ext (by kernel_rfl) (by kernel_rfl) ?_
      repeat (go_big_quiet_step (exact calls_ext (HL1.out _)))
      refine wpQuiet_nil ?_
      rintro _ ⟨u, rfl⟩
      go_wp2_with fail
      go_ret
      exact ⟨ret_bool (by rw [HR.out]; simp [bf, h1]), hb.trans (u.h.mono hb.size)⟩
    | false =>
      rw [h1] at HL1
      go_wp2_with fail
      refine wp_region_ext (by kernel_rfl) (by kernel_rfl) ?_
      repeat (go_big_quiet_step (exact calls_ext (HL1.out _)))
      refine wpQuiet_nil ?_
      rintro _ ⟨u, rfl⟩
      have hbu := hb.trans (u.h.mono hb.size)
      have q0' := ext_cell (q0 u)
      have f0' := ext_cell (f0 u)
      have f1' := ext_cell (f1 u)
      have f2' := ext_cell (f2 u)
      have e0' := ext_cell (e0 u)
      have e1' := ext_cell (e1 u)
      have e2' := ext_cell (e2 u)
      have HV2 := HV1.out.below u.h
      have L2 := fun u2 : Ext u.W => less_any Z ⟨b0, bc, bz, yh, yt⟩ ⟨a0, ac, az, xh, xt⟩ u2.W (HV2.below u2.h) HCY.out HCX.out
      simp only at L2
      have HL2 := Lib.hid L2
      clear L2 HV2
      clear q0 f0 e0 f1 e1 f2 e2
      cases h2 : lt ⟨b0, bc, bz, yh, yt⟩ ⟨a0, ac, az, xh, xt⟩ with
      | true =>
        rw [h2] at HL2
        go_wp2_with fail
        refine wp_region_ext (by kernel_rfl) (by kernel_rfl) ?_
        repeat (go_big_quiet_step (exact calls_ext (HL2.out _)))
        refine wpQuiet_nil ?_
        rintro _ ⟨u2, rfl⟩
        go_wp2_with fail
        go_ret
        exact ⟨ret_bool (by rw [HR.out]; simp [bf, h1, h2]), hbu.trans (u2.h.mono hbu.size)⟩
      | false =>
        rw [h2] at HL2
        go_wp2_with fail
        refine wp_region_ext (by kernel_rfl) (by kernel_rfl) ?_
        repeat (go_big_quiet_step (exact calls_ext (HL2.out _)))
        refine wpQuiet_nil ?_
        rintro _ ⟨u2, rfl⟩
        go_wp2_with fail
        go_ret
        exact ⟨ret_bool (by rw [HR.out]; simp [bf, h1, h2]), hbu.trans (u2.h.mono hbu.size)⟩
end Go.Proofs.YthakcefgbggkcaaDoor

namespace Go.Proofs.YthakcefgbggkcaaDoor
open Go.RowKit

/-- A queue whose row is there: its list l, its map f. -/
def QR (w : World) (cb q g c b : Nat) (l : List Ent) (nx ck : Nat) (f : Int → Option Nat) : Prop :=
  Blk w q 104 #[.func (.func 44) #[] #[.pointer (some ⟨cb, 0, none⟩)], .slice (some ⟨g, 0, none⟩) l.length c, .map (some b), .int .i64 nx, .int .i64 ck] ∧ OwnE w (some ⟨g, 0, none⟩) c l ∧ MapI w b nx f
theorem QR.below {w w' : World} {cb q g c b nx ck : Nat} {l : List Ent} {f : Int → Option Nat} (h : QR w cb q g c b l nx ck f) (hb : Below w.heap.size w w') : QR w' cb q g c b l nx ck f :=
  ⟨h.1.below hb h.1.lt, own_below h.2.1 hb, h.2.2.keep (hb.block b h.2.2.lt)⟩
/-- Handles below a bound. -/
def HB (l : List Ent) : Prop := ∀ e ∈ l, e.h ≤ 1000000000
theorem HB.perm {l l' : List Ent} (h : HB l) (hp : l'.Perm l) : HB l' := fun e he => h e (hp.mem_iff.1 he)

set_option maxRecDepth 100000 in
set_option maxHeartbeats 2000000 in
theorem up_any (w : World) (Z : Zq) (q g c b nx ck : Nat) (HE : Env w Z) (hD : ¬ Z.D g ∧ ¬ Z.D b) (l : List Ent) (hC : ∀ e ∈ l, Coh Z e) (f : Int → Option Nat) (i : Nat) (hi : i < l.length) (h : QR w Z.cb q g c b l nx ck f) (hA : Agree l f) (hn : nx ≤ 1000000000) (hll : l.length ≤ 1000000000) (hh : HB l) (hB : Both bf l i) :
    Calls Tryd.prog 68 #[.pointer (some ⟨q, 0, none⟩), .int .i64 i] w fun e w' => ∃ v l' f' i', e = .returned v ∧
      QR w' Z.cb q g c b l' nx ck f' ∧ Agree l' f' ∧ l'.Perm l ∧ l'[i']? = l[i]? ∧ Down bf l' i' ∧ (Kids bf l i → Kids bf l' i') ∧ Touch (fun k => k = g ∨ k = b) w w' := by
  have HV := Lib.hid HE
  have HDD := Lib.hid hD
  have HC := Lib.hid hC
  clear HE hD hC
  have HQ := Lib.hid h
  have HA := Lib.hid hA
  have HH := Lib.hid hh
  have HBo := Lib.hid hB
  clear h hA hh hB
  go_enter Tryd.func68, Tryd.ntmps68
  go_wp2_with fail
  go_loopw [1] (fun a wr => ∃ (j : Nat) (l' : List Ent) (f' : Int → Option Nat), a = .int .i64 j ∧ j < l'.length ∧ Hid (QR wr Z.cb q g c b l' nx ck f') ∧ Hid (Agree l' f') ∧ Hid (l'.Perm l) ∧ Hid (l'[j]? = l[i]?) ∧ Hid (Both bf l' j) ∧ Hid (Kids bf l i → Kids bf l' j) ∧ Touch (fun k => k = g ∨ k = b) w wr) (fun a _ => (intOf a).toNat)
  case atStart => exact ⟨i, l, f, rfl, hi, HQ, HA, Lib.hid (List.Perm.refl _), Lib.hid rfl, HBo, Lib.hid (fun h => h), Touch.refl _ _⟩
  case round =>
    obtain ⟨j, l', f', rfl, hj, HQ1, HA1, HP1, HE1, HB1, HK1, T1⟩ := hrel
    clear HQ HA HBo
    have hlen := HP1.out.length_eq
    by_cases h0 : 0 < j
    case neg =>
      obtain rfl : j = 0 := by omega
      have hd : decide ((0 : Int) < ((0 : Nat) : Int)) = false := rfl
      go_wp2_with fail
      go_end0
      exact ⟨_, l', f', 0, rfl, HQ1.out, HA1.out, HP1.out, HE1.out, ⟨HB1.out, fun h => absurd h (by omega)⟩, HK1.out, T1⟩
    case pos =>
      have hd : decide (0 < j) = true := by simp [h0]
      obtain ⟨p, hp⟩ : ∃ p, (j - 1) / 2 = p := ⟨_, rfl⟩
      have hpl : p < l'.length := by omega
      have v1 : IntKind.i64.wrap ((j : Int) - 1) = (j : Int) - 1 := IntWalk.i64_in _ (by omega)
      have v2 : ((j : Int) - 1).tdiv 2 = (p : Int) := by rw [Int.tdiv_eq_ediv_of_nonneg (by omega)]; omega
      have v3 : IntKind.i64.wrap (p : Int) = (p : Int) := IntWalk.i64_in _ (by omega)
      have v4 : ((j : Int) - 1) / 2 = (p : Int) := by omega
      have HPp := Lib.hid hp
      obtain ⟨x, hx⟩ : ∃ x, l'[j]? = some x := ⟨_, List.getElem?_eq_getElem hj⟩
      obtain ⟨y, hy⟩ : ∃ y, l'[p]? = some y := ⟨_, List.getElem?_eq_getElem hpl⟩
      have HX := Lib.hid hx
      have HY := Lib.hid hy
      clear hp hx hy
      go_wp2_with fail
      have HVr := Lib.hid (HV.out.touch T1 (fun k hk hf => by rcases hf with e | e; exact HDD.out.1 (e ▸ hk); exact HDD.out.2 (e ▸ hk)))
      refine (before_any wr Z q g c nx ck (.map (some b)) l' j p x y HQ1.out.1 HQ1.out.2.1 HVr.out (HC.out x (HP1.out.mem_iff.1 (List.mem_of_getElem? HX.out))) (HC.out y (HP1.out.mem_iff.1 (List.mem_of_getElem? HY.out))) HX.out HY.out).mono ?_
      clear HVr
      rintro e w1 ⟨rfl, hb1⟩
      have HQ2 := Lib.hid (HQ1.out.below hb1)
      have T2 := T1.below hb1
      clear HQ1 T1 hb1
      cases hbf : bf x y with
      | false =>
        go_wp2_with fail
        go_end0
        refine ⟨_, l', f', j, rfl, HQ2.out, HA1.out, HP1.out, HE1.out, ⟨HB1.out, fun _ => ?_⟩, HK1.out, T2⟩
        rw [HPp.out]
        intro a b ha hb
        rw [HY.out] at ha
        rw [HX.out] at hb
        injection ha with ha
        injection hb with hb
        subst ha hb
        exact hbf
      | true =>
        go_wp2_with fail
        refine (swap_any w1 Z.cb q g c b nx ck l' f' j p x y HQ2.out.1 HQ2.out.2.1 HQ2.out.2.2 HA1.out HX.out HY.out hn (by omega) ⟨(HH.out.perm HP1.out) x (List.mem_of_getElem? HX.out), (HH.out.perm HP1.out) y (List.mem_of_getElem? HY.out)⟩).mono ?_
        rintro e w2 ⟨v, rfl, K3, O3, M3, T3⟩
        have HQ3 := Lib.hid (show QR w2 Z.cb q g c b (swp l' j p) nx ck _ from ⟨K3, O3, M3⟩)
        have HA3 := Lib.hid (swap_agree HA1.out HX.out HY.out)
        have hup := HB1.out.up bf_ord h0 hj HX.out (by rw [HPp.out]; exact HY.out) hbf
        rw [HPp.out] at hup
        have HU := Lib.hid hup
        have hpe : (swp l' j p)[p]? = l[i]? := by rw [swp_at hj hpl, if_pos rfl]; exact HE1.out
        have HPE := Lib.hid hpe
        clear K3 O3 M3 hup hpe
        have T4 := T2.trans T3 (fun k h => .inl h)
        go_wp2_with fail
        go_roundw
        case rel => exact ⟨p, swp l' j p, _, by first | rfl | go_num, by rw [swp_length]; exact hpl, HQ3, HA3, Lib.hid ((swp_perm j p).trans HP1.out), HPE, Lib.hid HU.out.1, Lib.hid (fun _ => HU.out.2), T4⟩
        case measure => have := HPp.out; simp [intOf]; omega
end Go.Proofs.YthakcefgbggkcaaDoor

namespace Go.Proofs.YthakcefgbggkcaaDoor
open Go.RowKit

/-- The least of an entry and those of its children that were looked at. -/
structure Least (l : List Ent) (j m k : Nat) : Prop where
  ml : m < l.length
  or : m = j ∨ (0 < m ∧ (m - 1) / 2 = j ∧ ∃ x y, l[m]? = some x ∧ l[j]? = some y ∧ bf x y = true)
  own : LeAt bf l m j
  all : ∀ c, 2 * j + 1 ≤ c → c < k → c < l.length → LeAt bf l m c
theorem Least.start {l : List Ent} {j : Nat} (h : j < l.length) : Least l j j (2 * j + 1) := ⟨h, .inl rfl, LeAt.refl bf_ord l j, fun c h1 h2 => absurd h1 (by omega)⟩
theorem Least.keep {l : List Ent} {j m k : Nat} (h : Least l j m k) {x y : Ent} (hx : l[k]? = some x) (hy : l[m]? = some y) (hb : bf x y = false) : Least l j m (k + 1) := by
  refine ⟨h.ml, h.or, h.own, fun c h1 h2 h3 => ?_⟩
  rcases Nat.lt_or_ge c k with h4 | h4
  · exact h.all c h1 h4 h3
  · obtain rfl : c = k := by omega
    intro a b ha hb'
    rw [hy] at ha
    rw [hx] at hb'
    injection ha with ha
    injection hb' with hb'
    subst ha hb'
    exact hb
theorem Least.take {l : List Ent} {j m k : Nat} (h : Least l j m k) (hk : 2 * j + 1 ≤ k) (hk2 : k ≤ 2 * j + 2) {x y : Ent} (hx : l[k]? = some x) (hy : l[m]? = some y) (hb : bf x y = true) : Least l j k (k + 1) := by
  have hkl := (List.getElem?_eq_some_iff.1 hx).1
  have hyx := bf_ord.asym hb
  have hkm : LeAt bf l k m := fun a b ha hb' => by
    rw [hx] at ha
    rw [hy] at hb'
    injection ha with ha
    injection hb' with hb'
    subst ha hb'
    exact hyx
  have hkj := hkm.trans bf_ord h.ml h.own
  have hjl : j < l.length := by omega
  refine ⟨hkl, .inr ⟨by omega, by omega, x, _, hx, List.getElem?_eq_getElem hjl, ?_⟩, hkj, fun c h1 h2 h3 => ?_⟩
  · cases hbf : bf x l[j] with
    | true => rfl
    | false =>
      have h1 := h.own y _ hy (List.getElem?_eq_getElem hjl)
      have := bf_ord.trans h1 hbf
      rw [hb] at this
      exact this.symm
  · rcases Nat.lt_or_ge c k with h4 | h4
    · exact hkm.trans bf_ord h.ml (h.all c h1 h4 h3)
    · obtain rfl : c = k := by omega
      exact LeAt.refl bf_ord l c
theorem Least.kids {l : List Ent} {j m k : Nat} (h : Least l j m k) (hk : 2 * j + 2 < k ∨ l.length ≤ k) : ∀ c, 0 < c → c < l.length → (c - 1) / 2 = j → LeAt bf l m c := fun c h0 hl hc => h.all c (by omega) (by omega) hl

set_option maxRecDepth 100000 in
set_option maxHeartbeats 2000000 in
theorem down_any (w : World) (Z : Zq) (q g c b nx ck : Nat) (HE : Env w Z) (hDd : ¬ Z.D g ∧ ¬ Z.D b) (l : List Ent) (hC : ∀ e ∈ l, Coh Z e) (f : Int → Option Nat) (i : Nat) (hi : i < l.length ∨ (i = 0 ∧ l = [])) (h : QR w Z.cb q g c b l nx ck f) (hA : Agree l f) (hn : nx ≤ 1000000000) (hll : l.length ≤ 1000000000) (hh : HB l) (hD : Down bf l i) :
    Calls Tryd.prog 69 #[.pointer (some ⟨q, 0, none⟩), .int .i64 i] w fun e w' => ∃ v l' f', e = .returned v ∧
      QR w' Z.cb q g c b l' nx ck f' ∧ Agree l' f' ∧ l'.Perm l ∧ HeapOrd bf l' ∧ Touch (fun k => k = g ∨ k = b) w w' := by
  have HV := Lib.hid HE
  have HDD := Lib.hid hDd
  have HC := Lib.hid hC
  clear HE hDd hC
  have HQ := Lib.hid h
  have HA := Lib.hid hA
  have HH := Lib.hid hh
  have HD := Lib.hid hD
  have HI := Lib.hid hi
  clear h hA hh hD hi
  go_enter Tryd.func69, Tryd.ntmps69
  go_wp2_with fail
  go_loopw [1] (fun a wr => ∃ (j : Nat) (l' : List Ent) (f' : Int → Option Nat), a = .int .i64 j ∧ Hid (j < l'.length ∨ (j = 0 ∧ l' = [])) ∧ Hid (QR wr Z.cb q g c b l' nx ck f') ∧ Hid (Agree l' f') ∧ Hid (l'.Perm l) ∧ Hid (Down bf l' j) ∧ Touch (fun k => k = g ∨ k = b) w wr) (fun a _ => l.length - (intOf a).toNat)
  case atStart => exact ⟨i, l, f, rfl, HI, HQ, HA, Lib.hid (List.Perm.refl _), HD, Touch.refl _ _⟩
  case round =>
    obtain ⟨j, l', f', rfl, HJ, HQ1, HA1, HP1, HD1, T1⟩ := hrel
    clear HQ HA HD HI
    have hlen := HP1.out.length_eq
    have hj2 : j ≤ 1000000000 := by rcases HJ.out with h | ⟨h, _⟩ <;> omega
    have v1 : IntKind.i64.wrap (2 * (j : Int)) = 2 * (j : Int) := IntWalk.i64_in _ (by omega)
    have v2 : IntKind.i64.wrap (2 * (j : Int) + 1) = 2 * (j : Int) + 1 := IntWalk.i64_in _ (by omega)
    have v3 : IntKind.i64.wrap (2 * (j : Int) + 2) = 2 * (j : Int) + 2 := IntWalk.i64_in _ (by omega)
    go_upto_block 2 with fail
    go_cut [4, 5] (fun a4 a5 wx => ∃ m k : Nat, a4 = .int .i64 m ∧ a5 = .int .i64 k ∧ Hid ((j < l'.length ∧ Least l' j m k) ∨ (l' = [] ∧ m = j)) ∧ Hid (2 * j + 2 < k ∨ l'.length ≤ k) ∧ Below wr.heap.size wr wx)
    case first =>
      go_wp2_with fail
      go_loopw [4, 5] (fun a4 a5 wx => ∃ m k : Nat, a4 = .int .i64 m ∧ a5 = .int .i64 k ∧ 2 * j + 1 ≤ k ∧ k ≤ 2 * j + 3 ∧ Hid ((j < l'.length ∧ Least l' j m k) ∨ (l' = [] ∧ m = j)) ∧ Below wr.heap.size wr wx) (fun _ a5 _ => 2 * j + 3 - (intOf a5).toNat)
      case atStart =>
        refine ⟨j, 2 * j + 1, rfl, by first | rfl | go_num, Nat.le_refl _, by omega, Lib.hid ?_, Below.refl _ _⟩
        rcases HJ.out with h | ⟨h, h2⟩
        · exact .inl ⟨h, Least.start h⟩
        · exact .inr ⟨h2, rfl⟩
      case round =>
        obtain ⟨m, k, rfl, rfl, hk1, hk2, HL, hbx⟩ := hrel
        rename World => wx
        have HQx := Lib.hid (HQ1.out.below hbx)
        have q1 := HQx.out.1.cell 1
        simp at q1
        by_cases hk3 : k ≤ 2 * j + 2
        case neg =>
          have hkD : decide ((k : Int) ≤ 2 * (j : Int) + 2) = false := by simp; omega
          go_wp2_with fail
          go_meet
          exact ⟨m, k, rfl, rfl, HL, Lib.hid (.inl (by omega)), hbx⟩
        case pos =>
          have hkD : decide ((k : Int) ≤ 2 * (j : Int) + 2) = true := by simp; omega
          by_cases hkl : k < l'.length
          case neg =>
            have hlD : decide (k < l'.length) = false := by simp [hkl]
            go_wp2_with fail
            go_meet
            exact ⟨m, k, rfl, rfl, HL, Lib.hid (.inr (by omega)), hbx⟩
          case pos =>
            have hlD : decide (k < l'.length) = true := by simp [hkl]
            obtain ⟨hjl, hL⟩ : j < l'.length ∧ Least l' j m k := by
              rcases HL.out with h | ⟨h, _⟩
              · exact h
              · rw [h] at hkl; simp at hkl
            have HLL := Lib.hid hL
            have hml := hL.ml
            obtain ⟨x, hx⟩ : ∃ x, l'[k]? = some x := ⟨_, List.getElem?_eq_getElem hkl⟩
            obtain ⟨y, hy⟩ : ∃ y, l'[m]? = some y := ⟨_, List.getElem?_eq_getElem hml⟩
            have HX := Lib.hid hx
            have HY := Lib.hid hy
            have u1 : IntKind.i64.wrap ((k : Int) + 1) = (k : Int) + 1 := IntWalk.i64_in _ (by omega)
            clear hx hy hL HL
            go_wp2_with fail
            have HVr := Lib.hid ((HV.out.touch T1 (fun k hk hf => by rcases hf with e | e; exact HDD.out.1 (e ▸ hk); exact HDD.out.2 (e ▸ hk))).below hbx)
            refine (before_any wx Z q g c nx ck (.map (some b)) l' k m x y HQx.out.1 HQx.out.2.1 HVr.out (HC.out x (HP1.out.mem_iff.1 (List.mem_of_getElem? HX.out))) (HC.out y (HP1.out.mem_iff.1 (List.mem_of_getElem? HY.out))) HX.out HY.out).mono ?_
            clear HVr
            rintro e w1 ⟨rfl, hb1⟩
            have hb2 : Below wr.heap.size wr w1 := hbx.trans (hb1.mono hbx.size)
            clear q1
            cases hbf : bf x y with
            | false =>
              have HN := Lib.hid (HLL.out.keep HX.out HY.out hbf)
              go_wp2_with fail
              go_roundw
              case rel => exact ⟨m, k + 1, rfl, by first | rfl | go_num, by omega, by omega, Lib.hid (.inl ⟨hjl, HN.out⟩), hb2⟩
              case measure => simp [intOf]; omega
            | true =>
              have HN := Lib.hid (HLL.out.take hk1 hk3 HX.out HY.out hbf)
              go_wp2_with fail
              go_roundw
              case rel => exact ⟨k, k + 1, rfl, by first | rfl | go_num, by omega, by omega, Lib.hid (.inl ⟨hjl, HN.out⟩), hb2⟩
              case measure => simp [intOf]; omega
    case rest =>
      obtain ⟨m, k, rfl, rfl, HL, HK, hbx⟩ := hcut
      rename World => wx
      have HQx := Lib.hid (HQ1.out.below hbx)
      have T2 := T1.below hbx
      clear HQ1 T1 hbx v1 v2 v3
      by_cases hmj : m = j
      case pos =>
        subst hmj
        have hmm : ((m : Int) == (m : Int)) = true := beq_self_eq_true _
        go_wp2_with fail
        refine bodyPost_ret (results_none rfl _ _ _) rfl ?_
        refine ⟨⟨_, rfl⟩, l', f', HQx.out, HA1.out, HP1.out, HD1.out.heap ?_, T2⟩
        rcases HL.out with ⟨_, h⟩ | ⟨h, _⟩
        · exact h.kids HK.out
        · rw [h]; intro c h0 hl; simp at hl
      case neg =>
        have hmm : ((m : Int) == (j : Int)) = false := by rw [beq_eq_false_iff_ne]; omega
        obtain ⟨hjl, hL⟩ : j < l'.length ∧ Least l' j m k := by
          rcases HL.out with h | ⟨_, h⟩
          · exact h
          · exact absurd h hmj
        have HLL := Lib.hid hL
        have hml := hL.ml
        obtain ⟨hm0, hmp, x, y, hx, hy, hbf⟩ : 0 < m ∧ (m - 1) / 2 = j ∧ ∃ x y, l'[m]? = some x ∧ l'[j]? = some y ∧ bf x y = true := hL.or.resolve_left hmj
        have HX := Lib.hid hx
        have HY := Lib.hid hy
        have HBF := Lib.hid hbf
        have HMP := Lib.hid hmp
        clear hx hy hL HL hbf hmp
        go_wp2_with fail
        refine (swap_any wx Z.cb q g c b nx ck l' f' j m y x HQx.out.1 HQx.out.2.1 HQx.out.2.2 HA1.out HY.out HX.out hn (by omega) ⟨(HH.out.perm HP1.out) y (List.mem_of_getElem? HY.out), (HH.out.perm HP1.out) x (List.mem_of_getElem? HX.out)⟩).mono ?_
        rintro e w2 ⟨v, rfl, K3, O3, M3, T3⟩
        have HQ3 := Lib.hid (show QR w2 Z.cb q g c b (swp l' j m) nx ck _ from ⟨K3, O3, M3⟩)
        have HA3 := Lib.hid (swap_agree HA1.out HY.out HX.out)
        have HD3 := Lib.hid (HD1.out.down bf_ord hm0 hml HMP.out HY.out HX.out HBF.out (HLL.out.kids HK.out))
        clear K3 O3 M3
        have T4 := T2.trans T3 (fun k h => .inl h)
        go_wp2_with fail
        go_roundw
        case rel => exact ⟨m, swp l' j m, _, rfl, Lib.hid (.inl (by rw [swp_length]; exact hml)), HQ3, HA3, Lib.hid ((swp_perm j m).trans HP1.out), HD3, T4⟩
        case measure => have := HMP.out; simp [intOf]; omega
end Go.Proofs.YthakcefgbggkcaaDoor

namespace Go.Proofs.YthakcefgbggkcaaDoor
open Go.RowKit

/-- Entries that a queue may hold: handles and times are different, and below the next ones. -/
structure QOk (L : List Ent) (nx ck : Nat) : Prop where
  hb : ∀ e ∈ L, e.h < nx
  tb : ∀ e ∈ L, e.t < ck
  td : (L.map Ent.t).Nodup
  len : L.length ≤ nx
  nxb : nx ≤ 100000000
  ckb : ck ≤ 100000000
/-- A queue that holds the entries L, in whatever order. -/
def PQ (w : World) (F : Nat → Prop) (cb q : Nat) (L : List Ent) (nx ck : Nat) : Prop :=
  ∃ l f, QM w F cb q l nx ck f ∧ Agree l f ∧ l.Perm L ∧ HeapOrd bf l ∧ QOk L nx ck
section
variable {F G : Nat → Prop} {w w' : World} {cb q nx ck : Nat} {L : List Ent}
theorem PQ.touch (h : PQ w F cb q L nx ck) (ht : Touch G w w') (hd : ∀ k, F k → ¬ G k) : PQ w' F cb q L nx ck := by
  obtain ⟨l, f, h1, h2⟩ := h
  exact ⟨l, f, h1.touch ht hd, h2⟩
theorem PQ.below (h : PQ w F cb q L nx ck) (hb : Below w.heap.size w w') : PQ w' F cb q L nx ck := by
  obtain ⟨l, f, h1, h2⟩ := h
  exact ⟨l, f, h1.below hb, h2⟩
theorem PQ.mono (h : PQ w F cb q L nx ck) (hF : ∀ k, F k → G k) : PQ w G cb q L nx ck := by
  obtain ⟨l, f, h1, h2⟩ := h
  exact ⟨l, f, h1.mono hF, h2⟩
theorem PQ.precise (h : PQ w F cb q L nx ck) : ∃ G : Nat → Prop, (∀ k, G k → F k ∧ k < w.heap.size) ∧ PQ w G cb q L nx ck := by
  obtain ⟨l, f, h1, h2⟩ := h
  obtain ⟨G, hG, h3⟩ := h1.precise
  exact ⟨G, hG, l, f, h3, h2⟩
theorem PQ.drewN (h : PQ w F cb q L nx ck) (n : Nat) : PQ (w.drewN n) F cb q L nx ck := h.below (below_drewN (Below.refl _ _) n)
theorem PQ.ok (h : PQ w F cb q L nx ck) : QOk L nx ck := by
  obtain ⟨l, f, h1, h2, h3, h4, h5⟩ := h
  exact h5
end
/-- What a call on a queue leaves. -/
def QPost (w : World) (F : Nat → Prop) (cb q : Nat) (L : List Ent) (nx ck : Nat) (w' : World) : Prop := ∃ G : Nat → Prop, PQ w' G cb q L nx ck ∧ Touch F w w' ∧ ∀ k, G k → F k ∨ w.heap.size ≤ k

theorem new_any (cb : Nat) (w : World) : Calls Tryd.prog 43 #[.func (.func 44) #[] #[.pointer (some ⟨cb, 0, none⟩)]] w fun e w' => e = .returned (.pointer (some ⟨w.heap.size + 1, 0, none⟩)) ∧ PQ w' (fun k => w.heap.size ≤ k) cb (w.heap.size + 1) [] 0 0 ∧ Below w.heap.size w w' := by
  have hmm := @run_makeMap Tryd.prog
  go_enter Tryd.func43, Tryd.ntmps43
  go_wp2_with fail
  go_ret
  refine ⟨rfl, ⟨[], fun _ => none, ⟨none, 0, w.heap.size, Blk.new' (w.alloc _) _ _ (by simp), World.ownsRow_nil _ _ _ _, (MapI.made w).alloc _, by simp, Nat.le_refl _, by simp [Value.ownBlock]⟩, ⟨by simp, by simp⟩, List.Perm.refl _, fun k h0 hk => by simp at hk, ⟨by simp, by simp, by simp, by simp, by omega, by omega⟩⟩, ?_⟩
  exact ((Below.refl _ _).alloc (Nat.le_refl _) _).alloc (by simp) _
end Go.Proofs.YthakcefgbggkcaaDoor
