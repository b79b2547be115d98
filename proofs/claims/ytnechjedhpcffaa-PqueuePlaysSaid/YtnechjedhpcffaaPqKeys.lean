/- Keys pushed one after the other. -/
import Derived.Test.YtnechjedhpcffaaPqAwake
import Derived.Deep.OwnRows
namespace Go.Proofs.Ytnechjedhpcffaa
open Go.RowKit

/-- The entry of key number j. -/
def En (ks : List Int) (j : Nat) : Ent := ⟨ks[j]?.getD 0, j, j, j⟩
def Lk (ks : List Int) (n : Nat) : List Ent := (List.range n).map (En ks)
theorem Lk_succ (ks : List Int) (n : Nat) : Lk ks n ++ [⟨ks[n]?.getD 0, n, n, n⟩] = Lk ks (n + 1) := by
  simp [Lk, List.range_succ, En]
theorem Lk_length (ks : List Int) (n : Nat) : (Lk ks n).length = n := by simp [Lk]
theorem Lk_mem {ks : List Int} {n : Nat} {e : Ent} : e ∈ Lk ks n ↔ e.h < n ∧ e = En ks e.h := by
  simp only [Lk, List.mem_map, List.mem_range]
  constructor
  · rintro ⟨j, hj, rfl⟩
    exact ⟨hj, rfl⟩
  · rintro ⟨h, e1⟩
    exact ⟨e.h, h, e1.symm⟩

theorem popq_ex {w : World} {F : Nat → Prop} {base q nx ck : Nat} {L : List Ent} (h : QB w base q F L nx ck) (hL : L ≠ []) :
    Calls Try.prog 12 #[.pointer (some ⟨q, 0, none⟩)] w fun e w' => ∃ m L', IsMin m L ∧ L.Perm (m :: L') ∧ e = .returned (.tuple #[.agg #[.int .i64 m.key, .int .i64 m.id], .bool true]) ∧ ∃ G, QB w' base q G L' nx ck ∧ Step base w F w' G :=
  (pop_some w F q nx ck L h.1 hL).mono fun _ _ ⟨m', L2, h1, h2, h3, h4⟩ => by
    obtain ⟨G, h5, h6⟩ := h.post h4
    exact ⟨m', L2, h1, h2, h3, G, h5, h6⟩
theorem popq_first {w : World} {F : Nat → Prop} {base q nx ck : Nat} {L : List Ent} (h : QB w base q F L nx ck) (hL : L ≠ []) : ∃ m L', IsMin m L ∧ L.Perm (m :: L') := by
  obtain ⟨l, f, h1, h2, h3, h4, h5⟩ := h.1
  have hl : 0 < l.length := by rw [h3.length_eq]; exact List.length_pos_iff.2 hL
  have hm := List.getElem?_eq_getElem hl
  exact ⟨_, _, heap_min h4 h3 hm, h3.symm.trans (get_perm' hm)⟩

/-- The keys pushed, in a loop: [slot of the counter]. -/
theorem infoBool : (Try.prog.info? 4).map (fun i => (i.zero, i.size, i.bytes)) = some (some (.bool false), 1, 1) := by kernel_rfl
/-- Which handles have left. -/
def seenC (R : List Ent) (n : Nat) : Array Value := ((List.range n).map fun j => Value.bool (!(R.any fun e => e.h == j))).toArray
theorem seen_start (ks : List Int) (n : Nat) : madeCells #[.bool false] n = seenC (Lk ks n) n := by
  apply Array.toList_inj.1
  rw [toList_madeCells_one]
  apply List.ext_getElem?
  intro j
  simp only [seenC, List.getElem?_map, List.getElem?_replicate]
  by_cases hj : j < n
  · rw [List.getElem?_range hj]
    simp only [hj, if_true, Option.map_some]
    have : (Lk ks n).any (fun e => e.h == j) = true := by
      rw [List.any_eq_true]
      exact ⟨En ks j, Lk_mem.2 ⟨hj, rfl⟩, by simp [En]⟩
    simp [this]
  · rw [List.getElem?_eq_none (by simpa using hj)]
    simp [hj]
theorem seen_at {R : List Ent} {n j : Nat} (hj : j < n) : (seenC R n)[j]? = some (.bool (!(R.any fun e => e.h == j))) := by
  simp [seenC, hj]
theorem seen_pop {R R' : List Ent} {m : Ent} {n : Nat} (hd : (R.map Ent.h).Nodup) (hp : R.Perm (m :: R')) : (seenC R n).setIfInBounds m.h (.bool true) = seenC R' n := by
  apply Array.ext_getElem?
  intro j
  rw [Array.getElem?_setIfInBounds]
  have hnd := (hp.map Ent.h).nodup_iff.1 hd
  rw [List.map_cons, List.nodup_cons] at hnd
  have hany : ∀ j, R.any (fun e => e.h == j) = (m.h == j || R'.any (fun e => e.h == j)) := fun j => by
    rw [← List.any_cons (f := fun e : Ent => e.h == j)]
    rw [Bool.eq_iff_iff, List.any_eq_true, List.any_eq_true]
    constructor
    · rintro ⟨e, he, h⟩; exact ⟨e, hp.mem_iff.1 he, h⟩
    · rintro ⟨e, he, h⟩; exact ⟨e, hp.mem_iff.2 he, h⟩
  rcases Nat.lt_or_ge j n with hj | hj
  · rw [seen_at hj, seen_at hj, hany]
    by_cases e1 : m.h = j
    · subst e1
      have : R'.any (fun e => e.h == m.h) = false := by
        rw [List.any_eq_false]
        intro e he h
        exact hnd.1 (List.mem_map.2 ⟨e, he, by simpa using h⟩)
      simp [this, seenC, hj]
    · simp [e1]
  · rw [Array.getElem?_eq_none (by simp [seenC]; omega), Array.getElem?_eq_none (by simp [seenC]; omega)]
    split
    · rw [if_neg (by simp [seenC]; omega)]
    · rfl
end Go.Proofs.Ytnechjedhpcffaa
