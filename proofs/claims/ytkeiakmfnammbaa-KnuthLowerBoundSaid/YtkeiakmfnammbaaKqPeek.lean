/- The first element. -/
import Derived.Test.YtkeiakmfnammbaaKqSt
namespace Go.Proofs.Ytkeiakmfnammbaa
open Go.RowKit

theorem results_elem {fn : Func} {p r : Tmp} (h : fn.results = #[.cell p 64, .tmp r]) {tmps : Array Value} {b : Nat} (hp : tmps.getD p undef = .pointer (some ⟨b, 0, none⟩)) {w : World} {v : Value}
    {v0 : Value} (h0 : w.cell? ⟨b, 0, none⟩ = some v0) {v1 : Value} (h1 : w.cell? ⟨b, 1, none⟩ = some v1) {v2 : Value} (h2 : w.cell? ⟨b, 2, none⟩ = some v2) (hv : tmps.getD r undef = v) : (results fn tmps).run Try.prog w = .ok (.tuple #[.agg #[v0, v1, v2], v]) w := by
  have hp' : tmps[p]?.getD undef = .pointer (some ⟨b, 0, none⟩) := by rw [← hp]; simp
  have hv' : tmps[r]?.getD undef = v := by rw [← hv]; simp
  simp only [results, h]
  simp [go_sem, asAddr, hp', hv', h0, h1, h2]

/-- The first of the entries. -/
def IsMin (m : Ent) (L : List Ent) : Prop := m ∈ L ∧ ∀ e ∈ L, e.t ≠ m.t → bf m e = true
theorem heap_min {l L : List Ent} {m : Ent} (hH : HeapOrd bf l) (hp : l.Perm L) (hm : l[0]? = some m) : IsMin m L := by
  refine ⟨hp.mem_iff.1 (List.mem_of_getElem? hm), fun e he ht => ?_⟩
  obtain ⟨k, hk⟩ := List.getElem?_of_mem (hp.mem_iff.2 he)
  have := hH.root bf_ord k (List.getElem?_eq_some_iff.1 hk).1 m e hm hk
  exact bf_total ht this
theorem IsMin.uniq {m m' : Ent} {L : List Ent} (h : IsMin m L) (h' : IsMin m' L) (hd : (L.map Ent.t).Nodup) : m = m' := by
  by_cases e : m'.t = m.t
  · obtain ⟨i, hi⟩ := List.getElem?_of_mem h.1
    obtain ⟨j, hj⟩ := List.getElem?_of_mem h'.1
    have a1 : (L.map Ent.t)[i]? = some m.t := by rw [List.getElem?_map, hi]; rfl
    have a2 : (L.map Ent.t)[j]? = some m.t := by rw [List.getElem?_map, hj, ← e]; rfl
    have hij := (List.getElem?_inj (List.getElem?_eq_some_iff.1 a1).1 hd).1 (a1.trans a2.symm)
    subst hij
    rw [hi] at hj
    injection hj
  · have b1 := h.2 m' h'.1 e
    have b2 := h'.2 m h.1 (fun e' => e e'.symm)
    rw [bf_ord.asym b1] at b2
    cases b2

end Go.Proofs.Ytkeiakmfnammbaa
