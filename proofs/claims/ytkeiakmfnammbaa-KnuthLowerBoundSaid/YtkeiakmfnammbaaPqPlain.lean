/- Binary heaps as lists: plain facts. -/
import Derived.Test.YtkeiakmfnammbaaBase
namespace Go.Proofs.Ytkeiakmfnammbaa

section
variable {α : Type}
def swp (l : List α) (i j : Nat) : List α :=
  match l[i]?, l[j]? with
  | some a, some b => (l.set i b).set j a
  | _, _ => l
theorem swp_def {l : List α} {i j : Nat} {a b : α} (ha : l[i]? = some a) (hb : l[j]? = some b) : swp l i j = (l.set i b).set j a := by simp [swp, ha, hb]
theorem swp_length (l : List α) (i j : Nat) : (swp l i j).length = l.length := by unfold swp; split <;> simp
theorem swp_at {l : List α} {i j : Nat} (hi : i < l.length) (hj : j < l.length) (k : Nat) : (swp l i j)[k]? = if k = j then l[i]? else if k = i then l[j]? else l[k]? := by
  rw [swp_def (List.getElem?_eq_getElem hi) (List.getElem?_eq_getElem hj), List.getElem?_set, List.getElem?_set]
  simp only [List.length_set]
  by_cases h1 : j = k
  · subst h1; rw [if_pos rfl, if_pos rfl, if_pos hj, List.getElem?_eq_getElem hi]
  · rw [if_neg h1, if_neg (show ¬ k = j from fun e => h1 e.symm)]
    by_cases h2 : i = k
    · subst h2; rw [if_pos rfl, if_pos rfl, if_pos hi, List.getElem?_eq_getElem hj]
    · rw [if_neg h2, if_neg (show ¬ k = i from fun e => h2 e.symm)]
theorem set_self {l : List α} {i : Nat} {a : α} (h : l[i]? = some a) : l.set i a = l := by
  apply List.ext_getElem?
  intro k
  rw [List.getElem?_set]
  split
  · rename_i e; subst e; rw [h]; simp [(List.getElem?_eq_some_iff.1 h).1]
  · rfl
theorem set_perm' : ∀ {l : List α} {i : Nat} (_ : i < l.length) (a : α), (l.set i a).Perm (a :: l.eraseIdx i)
  | [], _, h, _ => absurd h (Nat.not_lt_zero _)
  | _ :: _, 0, _, _ => List.Perm.refl _
  | x :: l, i + 1, h, a => ((set_perm' (l := l) (i := i) (by simpa using h) a).cons x).trans (List.Perm.swap a x _)
theorem get_perm' {l : List α} {i : Nat} {a : α} (h : l[i]? = some a) : l.Perm (a :: l.eraseIdx i) := by
  have := set_perm' (List.getElem?_eq_some_iff.1 h).1 a
  rwa [set_self h] at this
theorem swp_perm {l : List α} (i j : Nat) : (swp l i j).Perm l := by
  cases ha : l[i]? with
  | none => simp [swp, ha]
  | some a =>
    cases hb : l[j]? with
    | none => simp [swp, ha, hb]
    | some b =>
      rw [swp_def ha hb]
      by_cases e : i = j
      · subst e
        rw [ha] at hb
        injection hb with hb
        subst hb
        rw [set_self ha, set_self ha]
      · have hil := (List.getElem?_eq_some_iff.1 ha).1
        have hjl := (List.getElem?_eq_some_iff.1 hb).1
        have h1 : (l.set i b)[j]? = some b := by rw [List.getElem?_set, if_neg e, hb]
        have h2 := get_perm' h1
        have h3 := set_perm' (l := l.set i b) (i := j) (by simpa using hjl) a
        have h4 := (h2.symm.trans (set_perm' hil b)).cons_inv
        exact h3.trans ((h4.cons a).trans (get_perm' ha).symm)

/-- An order by 'comes before'. -/
structure Ord (bf : α → α → Bool) : Prop where
  trans : ∀ {a b c : α}, bf b a = false → bf c b = false → bf c a = false
  asym : ∀ {a b : α}, bf a b = true → bf b a = false
variable {bf : α → α → Bool}
theorem Ord.irr (O : Ord bf) (a : α) : bf a a = false := by
  cases h : bf a a
  · rfl
  · exact h ▸ O.asym h
/-- What stands at i does not come after what stands at j. -/
def LeAt (bf : α → α → Bool) (l : List α) (i j : Nat) : Prop := ∀ x y, l[i]? = some x → l[j]? = some y → bf y x = false
theorem LeAt.trans (O : Ord bf) {l : List α} {i j k : Nat} (hj : j < l.length) (h1 : LeAt bf l i j) (h2 : LeAt bf l j k) : LeAt bf l i k := fun x y hx hy =>
  O.trans (h1 x _ hx (List.getElem?_eq_getElem hj)) (h2 _ y (List.getElem?_eq_getElem hj) hy)
theorem LeAt.refl (O : Ord bf) (l : List α) (i : Nat) : LeAt bf l i i := fun x y hx hy => by
  rw [hx] at hy
  injection hy with hy
  subst hy
  exact O.irr x
theorem LeAt.of_eq {l l' : List α} {i j i' j' : Nat} (h : LeAt bf l i j) (h1 : l'[i']? = l[i]?) (h2 : l'[j']? = l[j]?) : LeAt bf l' i' j' := fun x y hx hy => h x y (h1 ▸ hx) (h2 ▸ hy)
def HeapOrd (bf : α → α → Bool) (l : List α) : Prop := ∀ k, 0 < k → k < l.length → LeAt bf l ((k - 1) / 2) k
/-- In order but for what stands at i. -/
structure Both (bf : α → α → Bool) (l : List α) (i : Nat) : Prop where
  far : ∀ k, 0 < k → k < l.length → k ≠ i → (k - 1) / 2 ≠ i → LeAt bf l ((k - 1) / 2) k
  over : ∀ k, 0 < k → k < l.length → (k - 1) / 2 = i → 0 < i → LeAt bf l ((i - 1) / 2) k
def Kids (bf : α → α → Bool) (l : List α) (i : Nat) : Prop := ∀ k, 0 < k → k < l.length → (k - 1) / 2 = i → LeAt bf l i k
structure Down (bf : α → α → Bool) (l : List α) (i : Nat) : Prop where
  both : Both bf l i
  par : 0 < i → LeAt bf l ((i - 1) / 2) i
theorem Down.heap {l : List α} {i : Nat} (h : Down bf l i) (hk : Kids bf l i) : HeapOrd bf l := fun k h0 hl => by
  by_cases e1 : (k - 1) / 2 = i
  · rw [e1]; exact hk k h0 hl e1
  · by_cases e2 : k = i
    · subst e2; exact h.par h0
    · exact h.both.far k h0 hl e2 e1
theorem HeapOrd.both (O : Ord bf) {l : List α} (h : HeapOrd bf l) {i : Nat} (hi : i < l.length) : Both bf l i :=
  ⟨fun k h0 hl _ _ => h k h0 hl, fun k h0 hl e hi0 => (h i hi0 hi).trans O hi (by have := h k h0 hl; rwa [e] at this)⟩
theorem HeapOrd.root (O : Ord bf) {l : List α} (h : HeapOrd bf l) : ∀ (k : Nat), k < l.length → LeAt bf l 0 k := by
  intro k
  induction k using Nat.strongRecOn with
  | ind k ih =>
    intro hk
    rcases Nat.eq_zero_or_pos k with e | h0
    · subst e; exact LeAt.refl O l 0
    · have hp : (k - 1) / 2 < k := by omega
      exact (ih _ hp (by omega)).trans O (by omega) (h k h0 hk)

theorem Both.up (O : Ord bf) {l : List α} {i : Nat} (h : Both bf l i) (h0 : 0 < i) (hi : i < l.length) {x y : α} (hx : l[i]? = some x) (hy : l[(i - 1) / 2]? = some y) (hxy : bf x y = true) :
    Both bf (swp l i ((i - 1) / 2)) ((i - 1) / 2) ∧ Kids bf (swp l i ((i - 1) / 2)) ((i - 1) / 2) := by
  obtain ⟨p, hp⟩ : ∃ p, (i - 1) / 2 = p := ⟨_, rfl⟩
  rw [hp] at hy ⊢
  have hpi : p < i := by omega
  have hpl : p < l.length := by omega
  have at_ := swp_at hi hpl
  have hyx := O.asym hxy
  refine ⟨⟨fun k k0 kl kp kpp => ?_, fun k k0 kl kpp p0 => ?_⟩, fun k k0 kl kpp => ?_⟩ <;> rw [swp_length] at kl
  · have ki : k ≠ i := fun e => kpp (by rw [e, hp])
    by_cases e : (k - 1) / 2 = i
    · refine (h.over k k0 kl e h0).of_eq ?_ ?_
      · rw [at_, e, if_neg (by omega), if_pos rfl, hp]
      · rw [at_, if_neg kp, if_neg ki]
    · refine (h.far k k0 kl ki e).of_eq ?_ ?_
      · rw [at_, if_neg kpp, if_neg e]
      · rw [at_, if_neg kp, if_neg ki]
  · have hpp : LeAt bf l ((p - 1) / 2) p := h.far p p0 hpl (by omega) (by omega)
    by_cases e : k = i
    · refine hpp.of_eq ?_ ?_
      · rw [at_, if_neg (by omega), if_neg (by omega)]
      · rw [at_, if_neg (by omega), if_pos e]
    · have h2 : LeAt bf l p k := by have := h.far k k0 kl e (by omega); rwa [kpp] at this
      refine (hpp.trans O hpl h2).of_eq ?_ ?_
      · rw [at_, if_neg (by omega), if_neg (by omega)]
      · rw [at_, if_neg (by omega), if_neg e]
  · intro a b ha hb
    rw [at_, if_pos rfl, hx] at ha
    injection ha with ha
    subst ha
    by_cases e : k = i
    · rw [at_, if_neg (by omega), if_pos e, hy] at hb
      injection hb with hb
      subst hb
      exact hyx
    · rw [at_, if_neg (by omega), if_neg e] at hb
      have h2 : LeAt bf l p k := by have := h.far k k0 kl e (by omega); rwa [kpp] at this
      exact O.trans hyx (h2 y b hy hb)
theorem Down.down (O : Ord bf) {l : List α} {i c : Nat} (h : Down bf l i) (hc0 : 0 < c) (hcl : c < l.length) (hci : (c - 1) / 2 = i) {x y : α} (hx : l[i]? = some x) (hy : l[c]? = some y) (hyx : bf y x = true)
    (hk : ∀ k, 0 < k → k < l.length → (k - 1) / 2 = i → LeAt bf l c k) : Down bf (swp l i c) c := by
  have hic : i < c := by omega
  have at_ := swp_at (i := i) (by omega) hcl
  refine ⟨⟨fun k k0 kl kc kpc => ?_, fun k k0 kl kpc _ => ?_⟩, fun _ => ?_⟩
  · rw [swp_length] at kl
    by_cases e : k = i
    · refine (h.both.over c hc0 hcl hci (by omega)).of_eq ?_ ?_
      · rw [at_, if_neg kpc, if_neg (by omega), e]
      · rw [at_, if_neg kc, if_pos e]
    · by_cases e2 : (k - 1) / 2 = i
      · refine (hk k k0 kl e2).of_eq ?_ ?_
        · rw [at_, if_neg kpc, if_pos e2]
        · rw [at_, if_neg kc, if_neg e]
      · refine (h.both.far k k0 kl e e2).of_eq ?_ ?_
        · rw [at_, if_neg kpc, if_neg e2]
        · rw [at_, if_neg kc, if_neg e]
  · rw [swp_length] at kl
    have h2 : LeAt bf l c k := by have := h.both.far k k0 kl (by omega) (by omega); rwa [kpc] at this
    refine h2.of_eq ?_ ?_
    · rw [at_, if_neg (by omega), if_pos hci]
    · rw [at_, if_neg (by omega), if_neg (by omega)]
  · intro a b ha hb
    rw [at_, if_neg (by omega), if_pos hci, hy] at ha
    rw [at_, if_pos rfl, hx] at hb
    injection ha with ha
    injection hb with hb
    subst ha hb
    exact O.asym hyx
/-- Behind a removal of the first. -/
theorem HeapOrd.pop {l : List α} (h : HeapOrd bf l) {m : Nat} (hm : l.length = m + 1) : Down bf ((swp l 0 m).take m) 0 := by
  have at_ := swp_at (l := l) (i := 0) (j := m) (by omega) (by omega)
  refine ⟨⟨fun k k0 kl _ kp => ?_, fun _ _ _ _ h0 => absurd h0 (by omega)⟩, fun h0 => absurd h0 (by omega)⟩
  rw [List.length_take, swp_length] at kl
  refine (h k k0 (by omega)).of_eq ?_ ?_
  · rw [List.getElem?_take, if_pos (by omega), at_, if_neg (by omega), if_neg kp]
  · rw [List.getElem?_take, if_pos (by omega), at_, if_neg (by omega), if_neg (by omega)]
theorem HeapOrd.set (O : Ord bf) {l : List α} (h : HeapOrd bf l) {i : Nat} (hi : i < l.length) (x : α) : Both bf (l.set i x) i := by
  have hb := h.both O hi
  refine ⟨fun k k0 kl ki kp => ?_, fun k k0 kl kp h0 => ?_⟩ <;> rw [List.length_set] at kl
  · refine (hb.far k k0 kl ki kp).of_eq ?_ ?_
    · rw [List.getElem?_set, if_neg (fun e => kp e.symm)]
    · rw [List.getElem?_set, if_neg (fun e => ki e.symm)]
  · refine (hb.over k k0 kl kp h0).of_eq ?_ ?_
    · rw [List.getElem?_set, if_neg (by omega)]
    · rw [List.getElem?_set, if_neg (by omega)]
theorem HeapOrd.push {l : List α} (h : HeapOrd bf l) (x : α) : Both bf (l ++ [x]) l.length ∧ Kids bf (l ++ [x]) l.length := by
  refine ⟨⟨fun k k0 kl ki kp => ?_, fun k k0 kl kp h0 => ?_⟩, fun k k0 kl kp => ?_⟩ <;> simp at kl
  · refine (h k k0 (by omega)).of_eq ?_ ?_
    · rw [List.getElem?_append_left (by omega)]
    · rw [List.getElem?_append_left (by omega)]
  · omega
  · omega
theorem swp_last {l : List α} {m : Nat} (hm : l.length = m + 1) {a : α} (ha : l[0]? = some a) : l.Perm (a :: (swp l 0 m).take m) := by
  have h1 : (swp l 0 m).Perm l := swp_perm 0 m
  have h2 : (swp l 0 m)[m]? = some a := by rw [swp_at (by omega) (by omega), if_pos rfl, ha]
  have h3 := get_perm' h2
  have h4 : (swp l 0 m).eraseIdx m = (swp l 0 m).take m := by
    apply List.ext_getElem?
    intro k
    rw [List.getElem?_eraseIdx, List.getElem?_take]
    split
    · rfl
    · rw [List.getElem?_eq_none]; rw [swp_length]; omega
  rw [h4] at h3
  exact h1.symm.trans h3
end
end Go.Proofs.Ytkeiakmfnammbaa
