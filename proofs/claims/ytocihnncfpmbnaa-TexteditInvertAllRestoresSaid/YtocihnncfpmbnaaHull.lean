/- Plain facts on edits: what a list of edits comes to, its inverse, its hull. -/
import Derived.Test.YtocihnncfpmbnaaEds
namespace Go.Proofs.Ytocihnncfpmbnaa
open Go.RowKit

def bl (s : ByteArray) : List UInt8 := s.data.toList
theorem bl_inj {s t : ByteArray} (h : bl s = bl t) : s = t := ByteArray.ext (Array.toList_inj.1 h)
theorem bl_append (s t : ByteArray) : bl (s ++ t) = bl s ++ bl t := by simp [bl]
theorem bl_extract (s : ByteArray) (i j : Nat) : bl (s.extract i j) = ((bl s).take j).drop i := by
  have h : (s.extract i j).data = s.data.extract i j := by simp
  unfold bl
  rw [h, Array.toList_extract, List.extract_eq_take_drop, List.drop_take]
theorem bl_length (s : ByteArray) : (bl s).length = s.size := by show s.data.toList.length = s.data.size; simp
theorem bl_empty : bl ⟨#[]⟩ = [] := rfl

/-- The edited text as a list. -/
theorem bl_apT {s : ByteArray} {e : Ed} (h : e.ok s.size = true) : bl (apT s e) = (bl s).take e.pos.toNat ++ bl e.ins ++ (bl s).drop (e.pos.toNat + e.del.toNat) := by
  simp only [apT, h, if_true, bl_append, bl_extract]
  rw [List.drop_zero, List.take_of_length_le (Nat.le_of_eq (bl_length s))]
theorem apT_size_ok {s : ByteArray} {e : Ed} (h : e.ok s.size = true) : ((apT s e).size : Int) = s.size + e.ins.size - e.del := by
  have h2 := congrArg List.length (bl_apT h)
  obtain ⟨h1, h3, h4, h5⟩ := Ed.ok_iff.1 h
  simp only [bl_length, List.length_append, List.length_take, List.length_drop] at h2
  omega

/-- An edit followed by its inverse. -/
theorem inv_pos {s : ByteArray} {e : Ed} (h : e.ok s.size = true) : inv s e = ⟨e.pos, e.ins.size, s.extract e.pos.toNat (e.pos.toNat + e.del.toNat)⟩ := by simp [inv, h]
theorem inv_ok {s : ByteArray} {e : Ed} (h : e.ok s.size = true) : (inv s e).ok (apT s e).size = true := by
  have h2 := apT_size_ok h
  obtain ⟨h1, h3, h4, h5⟩ := Ed.ok_iff.1 h
  rw [inv_pos h]
  exact Ed.ok_iff.2 ⟨h1, by simp, by simp only; omega, by simp only; omega⟩
theorem inv_apT {s : ByteArray} {e : Ed} (h : e.ok s.size = true) : apT (apT s e) (inv s e) = s := by
  have hi := inv_ok h
  obtain ⟨h1, h3, h4, h5⟩ := Ed.ok_iff.1 h
  apply bl_inj
  rw [bl_apT hi, bl_apT h, inv_pos h]
  simp only [Int.toNat_natCast, bl_extract]
  have hp : e.pos.toNat ≤ (bl s).length := by rw [bl_length]; omega
  have hl : ((bl s).take e.pos.toNat).length = e.pos.toNat := by rw [List.length_take]; omega
  have e1 : ((bl s).take e.pos.toNat ++ bl e.ins ++ (bl s).drop (e.pos.toNat + e.del.toNat)).take e.pos.toNat = (bl s).take e.pos.toNat := by rw [List.append_assoc, List.take_left' hl]
  have e2 : ((bl s).take e.pos.toNat ++ bl e.ins ++ (bl s).drop (e.pos.toNat + e.del.toNat)).drop (e.pos.toNat + e.ins.size) = (bl s).drop (e.pos.toNat + e.del.toNat) := List.drop_left' (by rw [List.length_append, hl, bl_length])
  rw [e1, e2, List.drop_take, show e.pos.toNat + e.del.toNat - e.pos.toNat = e.del.toNat by omega, ← List.take_add, List.take_append_drop]
theorem inv_inv {s : ByteArray} {e : Ed} (h : e.ok s.size = true) : inv (apT s e) (inv s e) = e := by
  have hi := inv_ok h
  obtain ⟨h1, h3, h4, h5⟩ := Ed.ok_iff.1 h
  rw [inv_pos hi, inv_pos h]
  obtain ⟨p, d, t⟩ := e
  simp only at h1 h3 h4 h5 ⊢
  have hp : p.toNat ≤ (bl s).length := by rw [bl_length]; omega
  have hl : ((bl s).take p.toNat).length = p.toNat := by rw [List.length_take]; omega
  congr 1
  · rw [ByteArray.size_extract]; omega
  · apply bl_inj
    rw [bl_extract, bl_apT h]
    simp only [Int.toNat_natCast]
    rw [List.append_assoc, List.take_add, List.take_left' hl, List.drop_left' hl, List.drop_left' hl, List.take_left' (bl_length t)]

structure Hl where
  f : Int
  o : Int
  n : Int
def Hl.add (h : Hl) (e : Ed) : Hl :=
  if 0 < e.pos + e.del - h.n then ⟨if e.pos < h.f then e.pos else h.f, h.o + (e.pos + e.del - h.n), h.n + (e.pos + e.del - h.n) + (e.ins.size - e.del)⟩
  else ⟨if e.pos < h.f then e.pos else h.f, h.o, h.n + (e.ins.size - e.del)⟩
/-- What is outside the hull is as it was. -/
structure HInv (s T : ByteArray) (h : Hl) : Prop where
  f0 : 0 ≤ h.f
  fn : h.f ≤ h.n
  nT : h.n ≤ T.size
  fo : h.f ≤ h.o
  os : h.o ≤ s.size
  eq : (T.size : Int) - h.n = s.size - h.o
  pre : (bl T).take h.f.toNat = (bl s).take h.f.toNat
  suf : (bl T).drop h.n.toNat = (bl s).drop h.o.toNat
theorem drop_app {α : Type} {l m : List α} {n : Nat} (h : l.length ≤ n) : (l ++ m).drop n = m.drop (n - l.length) := by
  rw [List.drop_append, List.drop_eq_nil_of_le h, List.nil_append]
theorem HInv.refl (s : ByteArray) (p : Int) (h0 : 0 ≤ p) (h1 : p ≤ s.size) : HInv s s ⟨p, p, p⟩ := ⟨h0, Int.le_refl _, h1, Int.le_refl _, h1, rfl, rfl, rfl⟩
theorem HInv.add {s T : ByteArray} {h : Hl} (hi : HInv s T h) {e : Ed} (he : e.ok T.size = true) : HInv s (apT T e) (h.add e) := by
  obtain ⟨f0, fn, nT, fo, os, eq, pre, suf⟩ := hi
  have hsz := apT_size_ok he
  obtain ⟨h1, h3, h4, h5⟩ := Ed.ok_iff.1 he
  have hp : e.pos.toNat ≤ (bl T).length := by rw [bl_length]; omega
  have hl : ((bl T).take e.pos.toNat).length = e.pos.toNat := by rw [List.length_take]; omega
  have hpre : ∀ f' : Int, 0 ≤ f' → f' ≤ e.pos → f' ≤ h.f → (bl (apT T e)).take f'.toNat = (bl s).take f'.toNat := by
    intro f' g0 g1 g2
    rw [bl_apT he, List.append_assoc, List.take_append_of_le_length (by rw [hl]; omega), List.take_take]
    rw [show min f'.toNat e.pos.toNat = f'.toNat by omega]
    have := congrArg (List.take f'.toNat) pre
    rw [List.take_take, List.take_take, show min f'.toNat h.f.toNat = f'.toNat by omega] at this
    exact this
  have hsuf : ∀ m : Nat, h.n.toNat ≤ m → e.pos.toNat + e.del.toNat ≤ m → (bl (apT T e)).drop (m + e.ins.size - e.del.toNat) = (bl s).drop (h.o.toNat + (m - h.n.toNat)) := by
    intro m g1 g2
    have r : (bl s).drop (h.o.toNat + (m - h.n.toNat)) = (bl T).drop m := by
      rw [← List.drop_drop, ← suf, List.drop_drop]
      congr 1
      omega
    rw [bl_apT he, r, drop_app (by rw [List.length_append, hl, bl_length]; omega), List.drop_drop, List.length_append, hl, bl_length]
    congr 1
    omega
  unfold Hl.add
  split
  · rename_i g
    have hs := hsuf (e.pos.toNat + e.del.toNat) (by omega) (Nat.le_refl _)
    refine ⟨?_, ?_, ?_, ?_, ?_, ?_, ?_, ?_⟩
    · simp only; split <;> omega
    · simp only; split <;> omega
    · simp only; omega
    · simp only; split <;> omega
    · simp only; omega
    · simp only; omega
    · simp only
      split
      · exact hpre _ h1 (Int.le_refl _) (by omega)
      · exact hpre _ f0 (by omega) (Int.le_refl _)
    · simp only
      rw [show (h.n + (e.pos + e.del - h.n) + ((e.ins.size : Int) - e.del)).toNat = e.pos.toNat + e.del.toNat + e.ins.size - e.del.toNat by omega, hs]
      congr 1
      omega
  · rename_i g
    have hs := hsuf h.n.toNat (Nat.le_refl _) (by omega)
    refine ⟨?_, ?_, ?_, ?_, ?_, ?_, ?_, ?_⟩
    · simp only; split <;> omega
    · simp only; split <;> omega
    · simp only; omega
    · simp only; split <;> omega
    · simp only; omega
    · simp only; omega
    · simp only
      split
      · exact hpre _ h1 (Int.le_refl _) (by omega)
      · exact hpre _ f0 (by omega) (Int.le_refl _)
    · simp only
      rw [show (h.n + ((e.ins.size : Int) - e.del)).toNat = h.n.toNat + e.ins.size - e.del.toNat by omega, hs]
      congr 1
      omega
theorem hinv_all : ∀ (l : List Ed) (s T : ByteArray) (h : Hl), HInv s T h → (apAll T l).2 = 0 → HInv s (apAll T l).1 (l.foldl Hl.add h)
  | [], _, _, _, hi, _ => hi
  | e :: l, s, T, h, hi, h0 => by
    cases hok : e.ok T.size with
    | true =>
      rw [apAll_ok hok] at h0 ⊢
      exact hinv_all l s _ _ (hi.add hok) h0
    | false => rw [apAll_no hok] at h0; simp at h0
def hullOf : List Ed → Hl
  | [] => ⟨0, 0, 0⟩
  | e :: l => (e :: l).foldl Hl.add ⟨e.pos, e.pos, e.pos⟩
theorem hull_first (e : Ed) (h : 0 ≤ e.del) : Hl.add ⟨e.pos, e.pos, e.pos⟩ e = ⟨e.pos, e.pos + e.del, e.pos + e.ins.size⟩ := by
  unfold Hl.add
  simp only [Int.lt_irrefl, if_false]
  split
  · congr 1 <;> omega
  · congr 1 <;> omega
theorem ok_first {s : ByteArray} {e : Ed} {l : List Ed} (h : (apAll s (e :: l)).2 = 0) : e.ok s.size = true := by
  cases hok : e.ok s.size with
  | true => rfl
  | false => rw [apAll_no hok] at h; simp at h
theorem hullOf_inv {s : ByteArray} : ∀ {l : List Ed}, l ≠ [] → (apAll s l).2 = 0 → HInv s (apAll s l).1 (hullOf l)
  | [], h, _ => absurd rfl h
  | e :: l, _, h0 => by
    obtain ⟨h1, h3, h4, h5⟩ := Ed.ok_iff.1 (ok_first h0)
    exact hinv_all (e :: l) s s _ (HInv.refl s e.pos h1 h4) h0
def ed0 : Ed := ⟨0, 0, ⟨#[]⟩⟩
/-- The composed edit. -/
def compE (s : ByteArray) (l : List Ed) : Ed :=
  if (apAll s l).2 = 0 ∧ l ≠ [] then ⟨(hullOf l).f, (hullOf l).o - (hullOf l).f, (apAll s l).1.extract (hullOf l).f.toNat (hullOf l).n.toNat⟩ else ed0
theorem hull_apply {s T : ByteArray} {h : Hl} (hi : HInv s T h) : Ed.ok s.size ⟨h.f, h.o - h.f, T.extract h.f.toNat h.n.toNat⟩ = true ∧ apT s ⟨h.f, h.o - h.f, T.extract h.f.toNat h.n.toNat⟩ = T := by
  obtain ⟨f0, fn, nT, fo, os, eq, pre, suf⟩ := hi
  have hok : Ed.ok s.size ⟨h.f, h.o - h.f, T.extract h.f.toNat h.n.toNat⟩ = true := Ed.ok_iff.2 ⟨f0, by simp only; omega, by simp only; omega, by simp only; omega⟩
  refine ⟨hok, bl_inj ?_⟩
  rw [bl_apT hok]
  simp only [bl_extract]
  rw [← pre, show h.f.toNat + (h.o - h.f).toNat = h.o.toNat by omega, ← suf, List.drop_take]
  have : (bl T).take h.f.toNat ++ ((bl T).drop h.f.toNat).take (h.n.toNat - h.f.toNat) = (bl T).take h.n.toNat := by
    rw [← List.take_add]
    congr 1
    omega
  rw [this, List.take_append_drop]
theorem ed0_apply (s : ByteArray) : ed0.ok s.size = true ∧ apT s ed0 = s := by
  have hok : ed0.ok s.size = true := Ed.ok_iff.2 ⟨by simp [ed0], by simp [ed0], by simp [ed0], by simp [ed0]⟩
  refine ⟨hok, bl_inj ?_⟩
  rw [bl_apT hok]
  rfl
/-- The composed edit has the effect of the whole list. -/
theorem compE_apply {s : ByteArray} {l : List Ed} (h0 : (apAll s l).2 = 0) : (compE s l).ok s.size = true ∧ apT s (compE s l) = (apAll s l).1 := by
  unfold compE
  by_cases hl : l = []
  · subst hl
    rw [if_neg (by simp)]
    exact ed0_apply s
  · rw [if_pos ⟨h0, hl⟩]
    exact hull_apply (hullOf_inv hl h0)
end Go.Proofs.Ytocihnncfpmbnaa
