/- A map from integers to integers in memory, by the function that it is. -/
import Derived.Test.YtkeiakmfnammbaaBase
import Derived.Maps.OwnSet
namespace Go.Proofs.Ytkeiakmfnammbaa
open Go.RowKit Go.ChangeMaps Go.MapKept Go.WideShapes Go.Maps
open Go.WideElems (Fit rd rg pl rd_val)

/-- The datum is the function f. -/
def FunOf (D : DataW Unit) (f : Int → Option Nat) : Prop :=
  IsMap D ∧ ∀ k : Int, Maps.has D (.int .i64 k) = (f k).isSome ∧ D.atKey (.int .i64 k) (.lit (.int .i64 0)) = .lit (.int .i64 ((f k).getD 0 : Nat))
/-- Block b is a map of at most n entries: the function f. -/
def MapI (w : World) (b n : Nat) (f : Int → Option Nat) : Prop :=
  ∃ D : DataW Unit, w.ownsMap Try.prog 3 (plainElem Try.prog 3) b n D ∧ FunOf D f

theorem intK : Keyed Try.prog 3 := int_keyed Try.underlying3
theorem zeroI (w : World) : (zeroValue 3).run Try.prog w = .ok (.int .i64 0) w := by kernel_rfl
theorem keyI {k : Int} (h : (Lit.int .i64 k).wf = true) : keyOf Try.prog 3 (.int .i64 k) = some (.int .i64 k) := keyOf_int_mk Try.underlying3 h
theorem wfN {n : Nat} (h : n ≤ 9000000000000000000) : (Lit.int .i64 (n : Int)).wf = true := by
  simp [Lit.wf, IntKind.min, IntKind.max, IntKind.signed, IntKind.bits]
  omega

/-- f with k sent to v. -/
def fput (f : Int → Option Nat) (k : Int) (v : Nat) : Int → Option Nat := fun x => if x = k then some v else f x
/-- f without k. -/
def fdel (f : Int → Option Nat) (k : Int) : Int → Option Nat := fun x => if x = k then none else f x

theorem keyLit (k : Int) : WideAt.IsKeyLit (.int .i64 k) := trivial
theorem lit_ne {x k : Int} (h : x ≠ k) : (Lit.int .i64 x) ≠ .int .i64 k := fun e => h (by injection e)
theorem FunOf.put {D : DataW Unit} {f : Int → Option Nat} (h : FunOf D f) (k : Int) (v : Nat) : FunOf (D.put (.int .i64 k) (.lit (.int .i64 v))) (fput f k v) := by
  refine ⟨h.1.put _ _, fun x => ?_⟩
  by_cases e : x = k
  · subst e
    rw [has_put_same h.1 (keyLit x), atKey_put_same h.1 (keyLit x)]
    simp [fput]
  · rw [has_put_other (lit_ne e), atKey_put_other (lit_ne e)]
    simp only [fput, if_neg e]
    exact h.2 x
theorem FunOf.del {D : DataW Unit} {f : Int → Option Nat} (h : FunOf D f) (k : Int) : FunOf (D.del (.int .i64 k)) (fdel f k) := by
  refine ⟨h.1.del _, fun x => ?_⟩
  by_cases e : x = k
  · subst e
    rw [has_del_same, atKey_del_same]
    simp [fdel]
  · rw [has_del_other (lit_ne e), atKey_del_other (lit_ne e)]
    simp only [fdel, if_neg e]
    exact h.2 x

theorem own_size {w : World} {b n : Nat} {D : DataW Unit} (h : w.ownsMap Try.prog 3 (plainElem Try.prog 3) b n D) : w.ownsMap Try.prog 3 (plainElem Try.prog 3) b (Maps.size D) D := by
  obtain ⟨es, clock, hb, F, _, hD⟩ := h
  refine ⟨es, clock, hb, F, ?_, hD⟩
  rw [hD]
  simp [Maps.size, length_sorted]

/-- Among different stamps each is found where it stands. -/
theorem born_at : ∀ {l : List MapEntry}, (l.map (·.born)).Nodup → ∀ {j : Nat} {e : MapEntry}, l[j]? = some e → l.findIdx? (fun x => (x.born : Int) == (e.born : Int)) = some j
  | [], _, _, _, h => by simp at h
  | a :: r, hn, 0, e, h => by
    simp at h
    subst h
    simp [List.findIdx?_cons]
  | a :: r, hn, j + 1, e, h => by
    simp at h hn
    have hne : ((a.born : Int) == (e.born : Int)) = false := by
      rw [beq_eq_false_iff_ne]
      intro he
      exact hn.1 e (List.mem_of_getElem? h) (by omega)
    have ih := born_at (by simpa using hn.2) h
    rw [List.findIdx?_cons, hne]
    simp [ih]
theorem modify_at {α : Type} {f g : α → α} {l : Array α} {j : Nat} {a : α} (h : l[j]? = some a) (hfg : f a = g a) : l.modify j f = l.modify j g := by
  apply Array.ext_getElem?
  intro i
  rw [Array.getElem?_modify, Array.getElem?_modify]
  by_cases e : j = i
  · subst e
    rw [if_pos rfl, if_pos rfl, h]
    simp [hfg]
  · rw [if_neg e, if_neg e]
theorem modify_id {α : Type} {f : α → α} {l : Array α} {j : Nat} {a : α} (h : l[j]? = some a) (hf : f a = a) : l.modify j f = l := by
  apply Array.ext_getElem?
  intro i
  rw [Array.getElem?_modify]
  by_cases e : j = i
  · subst e
    rw [if_pos rfl, h]
    simp [hf]
  · rw [if_neg e]
theorem setBlock_id {w : World} {b : Nat} {es : Array MapEntry} {c : Nat} (h : w.heap[b]? = some (.map es c)) : setBlock w b (.map es c) = w := by
  have e : w.heap.setIfInBounds b (.map es c) = w.heap := by
    apply Array.ext_getElem?
    intro i
    by_cases hi : i = b
    · subst hi
      exact (heap_setBlock_same h _).trans h.symm
    · exact heap_setBlock_other h _ hi
  unfold setBlock
  rw [e]

section
variable {w w' : World} {b n : Nat} {f : Int → Option Nat}
theorem MapI.lt (h : MapI w b n f) : b < w.heap.size := let ⟨_, h1, _⟩ := h; h1.lt
theorem MapI.mono (h : MapI w b n f) {n' : Nat} (hn : n ≤ n') : MapI w b n' f := let ⟨D, h1, h2⟩ := h; ⟨D, h1.mono hn, h2⟩
theorem MapI.made (w : World) : MapI (w.alloc (.map #[] 0)) w.heap.size 0 fun _ => none :=
  ⟨.map [], World.ownsMap_made _ _ _ _, isMap_empty, fun _ => ⟨rfl, rfl⟩⟩
theorem MapI.keep (h : MapI w b n f) (hb : w'.heap[b]? = w.heap[b]?) : MapI w' b n f := by
  obtain ⟨D, ⟨es, clock, h1, h2⟩, h3⟩ := h
  exact ⟨D, ⟨es, clock, hb.trans h1, h2⟩, h3⟩
theorem MapI.drewN (h : MapI w b n f) (k : Nat) : MapI (w.drewN k) b n f := h
theorem MapI.drew (h : MapI w b n f) : MapI w.drew b n f := h
theorem MapI.alloc (h : MapI w b n f) (o : Obj) : MapI (w.alloc o) b n f := h.keep (Below.heap_alloc w o b h.lt)
theorem MapI.setCell (h : MapI w b n f) {p : Addr} (hp : b ≠ p.block) (u : Value) : MapI (w.setCell p u) b n f := h.keep (Below.heap_setCell w p u b hp)
theorem MapI.ne_blk {g : Nat} {t : TypeId} {cs : Array Value} (h : MapI w b n f) (hg : Blk w g t cs) : b ≠ g := by
  rintro rfl
  obtain ⟨D, ⟨es, clock, h1, _⟩, _⟩ := h
  unfold Blk at hg
  rw [h1] at hg
  injection hg with hg
  cases hg
theorem MapI.ne_own {base : Nat} {e : TypeId} {size m : Nat} {v : Value} {xs : List Value} (h : MapI w b n f) (ho : w.ownsRow base e size v m xs) : v.ownBlock ≠ some b := by
  rcases ho.2 with ⟨rfl, _⟩ | ⟨g', cap, cur, rfl, _, hh, _⟩
  · simp [Value.ownBlock]
  · intro he
    have : g' = b := by simpa [Value.ownBlock] using he
    subst this
    exact h.ne_blk (g := g') (t := e) (cs := cur) hh rfl

theorem MapI.look_ok (h : MapI w b n f) {k : Int} (hk : (Lit.int .i64 k).wf = true) :
    (Instr.lookup 72 (.map (some b)) (.int .i64 k) true).run Try.prog w = .ok (.tuple #[.int .i64 ((f k).getD 0 : Nat), .bool (f k).isSome]) w := by
  obtain ⟨D, h1, h2⟩ := h
  obtain ⟨v, ps, hrun, hv⟩ := h1.look_ok intK Try.underlying72 (zeroI w) (plainElem_int Try.underlying3 (by decide)) (keyI hk)
  obtain ⟨c, rfl, hc, _⟩ := plainElem_int_inv Try.underlying3 hv
  simp only [Prod.mk.injEq] at hc
  rw [(h2.2 k).2] at hc
  rw [hrun, (h2.2 k).1]
  injection hc.1 with hc
  injection hc with _ hc
  rw [hc]
theorem MapI.look (h : MapI w b n f) {k : Int} (hk : (Lit.int .i64 k).wf = true) :
    (Instr.lookup 72 (.map (some b)) (.int .i64 k) false).run Try.prog w = .ok (.int .i64 ((f k).getD 0 : Nat)) w := by
  obtain ⟨D, h1, h2⟩ := h
  obtain ⟨c, hrun, hc, _⟩ := h1.lookup_int intK Try.underlying72 Try.underlying3 (zeroI w) (keyI hk)
  rw [(h2.2 k).2] at hc
  rw [hrun]
  injection hc with hc
  injection hc with _ hc
  rw [hc]
theorem turned_block {w w' : World} {b : Nat} (h : w.mapTurned w' b) : (∀ i, i ≠ b → w'.heap[i]? = w.heap[i]?) ∧ w'.heap.size = w.heap.size ∧ w'.os = w.os ∧ w'.tape = w.tape ∧ w'.output = w.output := by
  obtain ⟨es, clock, es', clock', hb, rfl⟩ := h
  exact ⟨fun i hi => heap_setBlock_other hb _ hi, by simp [setBlock], rfl, rfl, rfl⟩
/-- A store at a new key, or at one that is there. -/
theorem MapI.put (h : MapI w b n f) {k : Int} (hk : (Lit.int .i64 k).wf = true) {v : Nat} (hv : v ≤ 9000000000000000000) (hn : n < maxLen) :
    ∃ w', (Instr.mapUpdate 72 (.map (some b)) (.int .i64 k) (.int .i64 v)).run Try.prog w = .ok () w' ∧ MapI w' b (if (f k).isSome then n else n + 1) (fput f k v) ∧ w.mapTurned w' b := by
  obtain ⟨D, h1, h2⟩ := h
  obtain ⟨w', hrun, h3, h4⟩ := h1.store intK Try.underlying72 hn (keyI hk) (plainElem_int Try.underlying3 (wfN hv))
  refine ⟨w', hrun, ⟨_, ?_, h2.put k v⟩, h4⟩
  have hs := h1.size_le
  have h5 := own_size h3
  rw [size_put (h1.tidy intK), (h2.2 k).1] at h5
  refine h5.mono ?_
  split <;> omega
theorem MapI.drop (h : MapI w b n f) {k : Int} (hk : (Lit.int .i64 k).wf = true) (ty : TypeId) :
    ∃ w', (Builtin.delete_ #[72, 3] ty #[.map (some b), .int .i64 k]).run Try.prog w = .ok (.tuple #[]) w' ∧ MapI w' b n (fdel f k) ∧ w.mapTurned w' b := by
  obtain ⟨D, h1, h2⟩ := h
  obtain ⟨w', hrun, h3, h4⟩ := h1.drop intK Try.underlying72 (keyI hk) ty
  exact ⟨w', hrun, ⟨_, h3, h2.del k⟩, h4⟩
/-- The entry of a key that is there, found; then written, in whatever world the map is as it was. -/
theorem MapI.entry (h : MapI w b n f) {k : Int} (hk : (Lit.int .i64 k).wf = true) (hf : (f k).isSome = true) (hn : n < maxLen) :
    ∃ (v0 : Value) (st : Nat), (Instr.mapEntry 72 (.map (some b)) (.int .i64 k)).run Try.prog w = .ok (.tuple #[v0, .int .i64 st]) w ∧
      ∀ (w2 : World) (v : Nat), w2.heap[b]? = w.heap[b]? → v ≤ 9000000000000000000 →
        ∃ w', (Instr.entryStore 72 (.map (some b)) (.int .i64 st) (.int .i64 v)).run Try.prog w2 = .ok () w' ∧ MapI w' b n (fput f k v) ∧ w2.mapTurned w' b := by
  have hm := h
  have hl := h.look_ok hk
  obtain ⟨D, ⟨es, clock, hb, F, hs, hD⟩, h2⟩ := h
  obtain ⟨s1, s2, _⟩ := F.stamped
  have ht : Try.prog.underlying 72 = some (.map 3 3) := Try.underlying72
  rcases intK.find w (keyI hk) es.toList F.keys with ⟨h1, _⟩ | ⟨j, e0, h1, hj, hk0⟩
  · exfalso
    rw [hf] at hl
    simp [Instr.lookup, run_underlying ht, MapKept.run_getObj_map hb, intK.check w _ (keyI hk), h1, zeroI, Result.andThen] at hl
  · have hj' : es[j]? = some e0 := by simpa using hj
    have hsame : es.modify j (fun e => { e with key := .int .i64 k }) = es := modify_id hj' (by rw [← hk0])
    refine ⟨e0.val, e0.born, ?_, fun w2 v hw2 hv => ?_⟩
    · have := setBlock_id hb
      unfold setBlock at this
      simp [Instr.mapEntry, run_underlying ht, MapKept.run_getObj_map hb, intK.check w false (keyI hk), h1, hj', hk0, intK.stays w (keyI hk), hsame, MapKept.run_setObj_map _ hb, Result.andThen, this, goInt]
    · have hb2 := hw2.trans hb
      obtain ⟨w3, hrun, hM, hT⟩ := (hm.keep hw2).put hk hv hn
      rw [hf, if_pos rfl] at hM
      rcases intK.find w2 (keyI hk) es.toList F.keys with ⟨_, hno⟩ | ⟨j2, e2, h12, hj2, hk2⟩
      · exact absurd hk0 (hno e0 (List.mem_of_getElem? hj))
      · have hj2' : es[j2]? = some e2 := by simpa using hj2
        have hjj : j2 = j := by
          have hnd := F.stamped.2.2
          have a1 : (es.toList.map (·.key))[j2]? = some (.int .i64 k) := by rw [List.getElem?_map, hj2, Option.map_some, hk2]
          have a2 : (es.toList.map (·.key))[j]? = some (.int .i64 k) := by rw [List.getElem?_map, hj, Option.map_some, hk0]
          exact (List.getElem?_inj (List.getElem?_eq_some_iff.1 a1).1 hnd).1 (a1.trans a2.symm)
        subst hjj
        refine ⟨w3, ?_, hM, hT⟩
        rw [← hrun]
        have hidx : es.findIdx? (fun x => (x.born : Int) == (e0.born : Int)) = some j2 := by
          have := born_at s2 hj
          obtain ⟨l⟩ := es
          simpa using this
        have hmod : es.modify j2 (fun e => { e with val := .int .i64 v }) = es.modify j2 (fun e => { e with key := .int .i64 k, val := .int .i64 v }) := modify_at hj' (by rw [← hk0])
        simp [Instr.entryStore, Instr.mapUpdate, run_underlying ht, MapKept.run_getObj_map hb2, intK.check w2 false (keyI hk), h12, hj', hk0, intK.stays w2 (keyI hk), hidx, hmod, asInt, asIntOf, MapKept.run_setObj_map _ hb2, Result.andThen]
end
end Go.Proofs.Ytkeiakmfnammbaa
