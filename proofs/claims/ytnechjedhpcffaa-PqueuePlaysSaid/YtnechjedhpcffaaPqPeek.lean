/- The first element. -/
import Derived.Test.YtnechjedhpcffaaPqSt
namespace Go.Proofs.Ytnechjedhpcffaa
open Go.RowKit

theorem results_elem {fn : Func} {p r : Tmp} (h : fn.results = #[.cell p 27, .tmp r]) {tmps : Array Value} {b : Nat} (hp : tmps.getD p undef = .pointer (some ⟨b, 0, none⟩)) {w : World} {v : Value}
    {v0 : Value} (h0 : w.cell? ⟨b, 0, none⟩ = some v0) {v1 : Value} (h1 : w.cell? ⟨b, 1, none⟩ = some v1) (hv : tmps.getD r undef = v) : (results fn tmps).run Try.prog w = .ok (.tuple #[.agg #[v0, v1], v]) w := by
  have hp' : tmps[p]?.getD undef = .pointer (some ⟨b, 0, none⟩) := by rw [← hp]; simp
  have hv' : tmps[r]?.getD undef = v := by rw [← hv]; simp
  simp only [results, h]
  simp [go_sem, asAddr, hp', hv', h0, h1]

/-- The first of the entries. -/
def IsMin (m : Ent) (L : List Ent) : Prop := m ∈ L ∧ ∀ e ∈ L, e.t ≠ m.t → bf m e = true
theorem heap_min {l L : List Ent} {m : Ent} (hH : HeapOrd bf l) (hp : l.Perm L) (hm : l[0]? = some m) : IsMin m L := by
  refine ⟨hp.mem_iff.1 (List.mem_of_getElem? hm), fun e he ht => ?_⟩
  obtain ⟨k, hk⟩ := List.getElem?_of_mem (hp.mem_iff.2 he)
  have := hH.root bf_ord k (List.getElem?_eq_some_iff.1 hk).1 m e hm hk
  exact bf_total ht this
theorem IsMin.uniq {m m' : Ent} {L : List Ent} (h : IsMin m L) (h' : IsMin m' L) (hd : (L.map Ent.t).Nodup) : m = m' := by
  by_cases e : m'.t = m.t
  · obtain ⟨i, hi⟩ := List.getElem?_of_mem h.1
    obtain ⟨j, hj⟩ := List.getElem?_of_mem h'.1
    have a1 : (L.map Ent.t)[i]? = some m.t := by rw [List.getElem?_map, hi]; rfl
    have a2 : (L.map Ent.t)[j]? = some m.t := by rw [List.getElem?_map, hj, ← e]; rfl
    have hij := (List.getElem?_inj (List.getElem?_eq_some_iff.1 a1).1 hd).1 (a1.trans a2.symm)
    subst hij
    rw [hi] at hj
    injection hj
  · have b1 := h.2 m' h'.1 e
    have b2 := h'.2 m h.1 (fun e' => e e'.symm)
    rw [bf_ord.asym b1] at b2
    cases b2

set_option maxRecDepth 100000 in
theorem peek_none (w : World) (F : Nat → Prop) (q nx ck : Nat) (h : PQ w F q [] nx ck) : Calls Try.prog 16 #[.pointer (some ⟨q, 0, none⟩)] w fun e w' => e = .returned (.tuple #[.agg #[.int .i64 0, .int .i64 0], .bool false]) ∧ Below w.heap.size w w' := by
  obtain ⟨l, f, ⟨A, c, b, K, _⟩, _, hp, _⟩ := h
  obtain rfl : l = [] := hp.eq_nil
  have k1 := (K.alloc (.cells #[.int .i64 0, .int .i64 0] 27)).cell 1
  simp at k1
  have B := Blk.new' w 27 #[.int .i64 0, .int .i64 0] rfl
  have hz : decide ((0 : Nat) = 0) = true := rfl
  clear K
  go_enter Try.func16, Try.ntmps16
  go_wp2_with fail
  have C := (Blk.new' w 27 #[.int .i64 0, .int .i64 0] rfl).alloc (.cells #[.int .i64 0, .int .i64 0] 27)
  exact bodyPost_ret (results_elem rfl rfl (C.cell 0) (C.cell 1) rfl) rfl ⟨rfl, ((Below.refl _ _).alloc (Nat.le_refl _) _).alloc (by simp) _⟩
set_option maxRecDepth 100000 in
theorem peek_some (w : World) (F : Nat → Prop) (q nx ck : Nat) (L : List Ent) (h : PQ w F q L nx ck) (hL : L ≠ []) : Calls Try.prog 16 #[.pointer (some ⟨q, 0, none⟩)] w fun e w' => ∃ m, IsMin m L ∧ e = .returned (.tuple #[.agg #[.int .i64 m.key, .int .i64 m.id], .bool true]) ∧ Below w.heap.size w w' := by
  obtain ⟨l, f, ⟨A, c, b, K, O, _⟩, _, hp, hH, _⟩ := h
  have hl : 0 < l.length := by
    rw [hp.length_eq]
    exact List.length_pos_iff.2 hL
  obtain ⟨g, cur, rfl, hg⟩ := O.form hl
  obtain ⟨m, hm⟩ : ∃ m, l[0]? = some m := ⟨_, List.getElem?_eq_getElem hl⟩
  have HM := Lib.hid (heap_min hH hp hm)
  obtain ⟨e0, e1, e2, e3⟩ := (show OwnE (w.alloc (.cells #[.int .i64 0, .int .i64 0] 27)) (some ⟨g, 0, none⟩) c l from own_below O ((Below.refl _ _).alloc (Nat.le_refl _) _)).at_ hm
  simp only [Nat.zero_mul, Nat.zero_add] at e0 e1 e2 e3
  have k1 := (K.alloc (.cells #[.int .i64 0, .int .i64 0] 27)).cell 1
  simp at k1
  have hne : ((l.length : Int) == 0) = false := by rw [beq_eq_false_iff_ne]; omega
  have hne' : l ≠ [] := by intro e; rw [e] at hl; simp at hl
  have hii : (0 : Int) < (l.length : Int) := by omega
  clear K O hm hp hH hg
  obtain ⟨m0, m1, mh, mt⟩ := m
  simp only at e0 e1 e2 e3
  go_enter Try.func16, Try.ntmps16
  go_wp2_with fail
  have C := Blk.new' w 27 #[.int .i64 m0, .int .i64 m1] rfl
  exact bodyPost_ret (results_elem rfl rfl (C.cell 0) (C.cell 1) rfl) rfl ⟨⟨m0, m1, mh, mt⟩, HM.out, rfl, (Below.refl _ _).alloc (Nat.le_refl _) _⟩
end Go.Proofs.Ytnechjedhpcffaa
