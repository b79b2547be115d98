/- Where an updated entry stands among the others. -/
import Derived.Test.YtnechjedhpcffaaPqKeys
namespace Go.Proofs.Ytnechjedhpcffaa
open Go.RowKit

section
variable (ks : List Int) (key : Int) (k n : Nat)
/-- The entry that was updated. -/
def Up : Ent := ⟨key, k, k, n⟩
def low (e : Ent) : Bool := !(e.h == k) && decide (e.key ≤ key)
def cnt (R : List Ent) : Nat := (R.filter (low key k)).length
/-- How many keys, but for number k, are at most 'key', among the first i. -/
def bc (i : Nat) : Nat := cnt key k (Lk ks i)
theorem bc_zero : bc ks key k 0 = 0 := rfl
theorem bc_succ (i : Nat) : bc ks key k (i + 1) = bc ks key k i + if i ≠ k ∧ ks[i]?.getD 0 ≤ key then 1 else 0 := by
  unfold bc cnt
  rw [← Lk_succ, List.filter_append, List.length_append]
  congr 1
  by_cases h1 : i = k
  · simp [low, h1]
  · by_cases h2 : ks[i]?.getD 0 ≤ key <;> simp [low, h1, h2]
theorem bc_le (i : Nat) : bc ks key k i ≤ i := by
  unfold bc cnt
  exact Nat.le_trans (List.length_filter_le _ _) (by rw [Lk_length]; exact Nat.le_refl _)
structure UInv (bt : Nat) (R : List Ent) (i : Nat) : Prop where
  all : ∀ e ∈ R, e = Up key k n ∨ (e.h ≠ k ∧ e.h < n ∧ e = En ks e.h)
  st : (Up key k n ∈ R ∧ cnt key k R + i = bt) ∨ (Up key k n ∉ R ∧ bt < i)
variable {ks key k n}
theorem cnt_perm {R R' : List Ent} (h : R.Perm R') : cnt key k R = cnt key k R' := (h.filter _).length_eq
theorem cnt_cons (e : Ent) (R : List Ent) : cnt key k (e :: R) = (if low key k e then 1 else 0) + cnt key k R := by
  unfold cnt
  rw [List.filter_cons]
  split <;> simp [Nat.add_comm]
theorem uinv_start {L1 : List Ent} (h : (Lk ks n).Perm (En ks k :: L1)) : UInv ks key k n (bc ks key k n) (Up key k n :: L1) 0 := by
  have hnd : ((Lk ks n).map Ent.h).Nodup := by
    have : (Lk ks n).map Ent.h = List.range n := by
      unfold Lk
      rw [List.map_map]
      simp [Function.comp_def, En]
    rw [this]
    exact List.nodup_range
  have hnd2 := (h.map Ent.h).nodup_iff.1 hnd
  rw [List.map_cons, List.nodup_cons] at hnd2
  refine ⟨fun e he => ?_, .inl ⟨by simp, ?_⟩⟩
  · rcases List.mem_cons.1 he with h1 | h1
    · exact .inl h1
    · right
      obtain ⟨h2, h3⟩ := Lk_mem.1 (h.mem_iff.2 (List.mem_cons_of_mem _ h1))
      refine ⟨fun e1 => hnd2.1 (List.mem_map.2 ⟨e, h1, e1⟩), h2, h3⟩
  · unfold bc
    rw [cnt_perm h, cnt_cons, cnt_cons]
    simp [low, Up, En]
theorem UInv.pop {bt : Nat} {R R' : List Ent} {m : Ent} {i : Nat} (h : UInv ks key k n bt R i) (hm : IsMin m R) (hp : R.Perm (m :: R')) (hd : (R.map Ent.t).Nodup) :
    ((m = Up key k n ∧ i = bt ∧ ∀ e ∈ R', e.h ≠ k) ∨ (m.h ≠ k ∧ m.id = (m.h : Int) ∧ i ≠ bt)) ∧ UInv ks key k n bt R' (i + 1) := by
  have hd2 := (hp.map Ent.t).nodup_iff.1 hd
  rw [List.map_cons, List.nodup_cons] at hd2
  have hall : ∀ e ∈ R', e = Up key k n ∨ (e.h ≠ k ∧ e.h < n ∧ e = En ks e.h) := fun e he => h.all e (hp.mem_iff.2 (List.mem_cons_of_mem _ he))
  have hid : ∀ e : Ent, e = En ks e.h → e.id = (e.h : Int) ∧ e.t = e.h := fun e he => by rw [he]; exact ⟨rfl, rfl⟩
  by_cases hmU : m = Up key k n
  · subst hmU
    have hU' : Up key k n ∉ R' := fun hu => hd2.1 (List.mem_map.2 ⟨_, hu, rfl⟩)
    have hne : ∀ e ∈ R', e.h ≠ k := fun e he => by
      rcases hall e he with h1 | h1
      · subst h1; exact absurd he hU'
      · exact h1.1
    have hc : cnt key k R = 0 := by
      unfold cnt
      rw [List.length_eq_zero_iff, List.filter_eq_nil_iff]
      intro e he hl
      simp [low] at hl
      rcases h.all e he with h1 | ⟨h1, h2, h3⟩
      · rw [h1] at hl; exact hl.1 rfl
      · have h4 := hm.2 e he (by rw [(hid e h3).2]; show e.h ≠ n; omega)
        rw [bf_iff] at h4
        have h5 : key < e.key ∨ (key = e.key ∧ n < e.t) := h4
        rw [(hid e h3).2] at h5
        omega
    rcases h.st with ⟨_, h1⟩ | ⟨h1, _⟩
    · exact ⟨.inl ⟨rfl, by omega, hne⟩, hall, .inr ⟨hU', by omega⟩⟩
    · exact absurd hm.1 h1
  · have h1 : m.h ≠ k ∧ m.h < n ∧ m = En ks m.h := (h.all m hm.1).resolve_left hmU
    rcases h.st with ⟨hu, hc⟩ | ⟨hu, hc⟩
    · have hUR' : Up key k n ∈ R' := (List.mem_cons.1 (hp.mem_iff.1 hu)).resolve_left (fun e => hmU e.symm)
      have h4 := hm.2 _ hu (by show n ≠ m.t; rw [(hid m h1.2.2).2]; omega)
      rw [bf_iff] at h4
      have h5 : m.key < key ∨ (m.key = key ∧ m.t < n) := h4
      have hlow : low key k m = true := by simp [low, h1.1]; omega
      have hcn : cnt key k R = 1 + cnt key k R' := by rw [cnt_perm hp, cnt_cons, hlow]; rfl
      exact ⟨.inr ⟨h1.1, (hid m h1.2.2).1, by omega⟩, hall, .inl ⟨hUR', by omega⟩⟩
    · refine ⟨.inr ⟨h1.1, (hid m h1.2.2).1, by omega⟩, hall, .inr ⟨fun hu' => hu (hp.mem_iff.2 (List.mem_cons_of_mem _ hu')), by omega⟩⟩
end
end Go.Proofs.Ytnechjedhpcffaa
