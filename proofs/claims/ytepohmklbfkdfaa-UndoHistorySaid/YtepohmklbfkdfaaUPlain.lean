/- A history as data: what the calls make of it; the original text with the edits behind it. -/
import Derived.Test.YtepohmklbfkdfaaUEds
namespace Go.Proofs.Ytepohmklbfkdfaa
open Go.RowKit

/-- Text, version, the inverses of the undoable edits (the last one at the end), the redoable edits (the first one at the end). -/
structure HS where
  t : ByteArray
  v : Nat
  U : List Ed
  R : List Ed
def HS.swap (h : HS) : HS := ⟨h.t, h.v, h.R, h.U⟩
def doE (h : HS) (e : Ed) : Int := if e.ok h.t.size then (if (apT h.t e).size ≤ 4000 then 0 else 11) else 2
def doH (h : HS) (e : Ed) : HS := if doE h e = 0 then ⟨apT h.t e, h.v + 1, h.U ++ [inv h.t e], []⟩ else h
def undoE (h : HS) : Int := if h.U = [] then 15 else 0
def undoX (h : HS) : Ed := h.U.getLast?.getD ed0
def undoH (h : HS) : HS := if h.U = [] then h else ⟨apT h.t (undoX h), h.v + 1, h.U.dropLast, h.R ++ [inv h.t (undoX h)]⟩
def redoE (h : HS) : Int := undoE h.swap
def redoX (h : HS) : Ed := undoX h.swap
def redoH (h : HS) : HS := (undoH h.swap).swap

structure St where
  k : Nat
  e : Ed
def stepE (h : HS) (x : St) : Int := if x.k % 3 = 1 then undoE h else if x.k % 3 = 2 then redoE h else doE h x.e
def stepX (h : HS) (x : St) : Ed := if x.k % 3 = 1 then undoX h else if x.k % 3 = 2 then redoX h else if doE h x.e = 0 then x.e else ed0
def stepH (h : HS) (x : St) : HS := if x.k % 3 = 1 then undoH h else if x.k % 3 = 2 then redoH h else doH h x.e

/-- The original text, all edits, how many of them are done, the version. -/
structure CH where
  S : ByteArray
  E : List Ed
  d : Nat
  v : Nat
def tx (S : ByteArray) (l : List Ed) : ByteArray := l.foldl apT S
def ivs : ByteArray → List Ed → List Ed
  | _, [] => []
  | s, e :: l => inv s e :: ivs (apT s e) l
theorem tx_snoc (S : ByteArray) (l : List Ed) (e : Ed) : tx S (l ++ [e]) = apT (tx S l) e := by simp [tx]
theorem ivs_snoc : ∀ (l : List Ed) (S : ByteArray) (e : Ed), ivs S (l ++ [e]) = ivs S l ++ [inv (tx S l) e]
  | [], _, _ => rfl
  | x :: l, S, e => by
    simp only [List.cons_append, ivs, ivs_snoc l]
    rfl
theorem ivs_length : ∀ (l : List Ed) (S : ByteArray), (ivs S l).length = l.length
  | [], _ => rfl
  | x :: l, S => by simp [ivs, ivs_length l]
def CH.text (c : CH) : ByteArray := tx c.S (c.E.take c.d)
def CH.hs (c : CH) : HS := ⟨c.text, c.v, ivs c.S (c.E.take c.d), (c.E.drop c.d).reverse⟩
structure CH.Ok (c : CH) : Prop where
  d : c.d ≤ c.E.length
  ok : ∀ (i : Nat) (e : Ed), c.E[i]? = some e → e.ok (tx c.S (c.E.take i)).size = true ∧ (apT (tx c.S (c.E.take i)) e).size ≤ 4000
def CH.doC (c : CH) (e : Ed) : CH := if doE c.hs e = 0 then ⟨c.S, c.E.take c.d ++ [e], c.d + 1, c.v + 1⟩ else c
def CH.undoC (c : CH) : CH := if c.d = 0 then c else ⟨c.S, c.E, c.d - 1, c.v + 1⟩
def CH.redoC (c : CH) : CH := if c.d = c.E.length then c else ⟨c.S, c.E, c.d + 1, c.v + 1⟩
def CH.stepC (c : CH) (x : St) : CH := if x.k % 3 = 1 then c.undoC else if x.k % 3 = 2 then c.redoC else c.doC x.e
def CH.new (s : ByteArray) : CH := ⟨s, [], 0, 0⟩
theorem CH.new_ok (s : ByteArray) : (CH.new s).Ok := ⟨Nat.le_refl _, fun i e h => by simp [CH.new] at h⟩

theorem take_snoc_ed {l : List Ed} {k : Nat} {e : Ed} (h : l[k]? = some e) : l.take (k + 1) = l.take k ++ [e] := by
  rw [List.take_add_one, h]; rfl

theorem doE_zero {h : HS} {e : Ed} (h0 : doE h e = 0) : e.ok h.t.size = true ∧ (apT h.t e).size ≤ 4000 := by
  unfold doE at h0
  split at h0
  · split at h0
    · exact ⟨by assumption, by assumption⟩
    · omega
  · omega

theorem CH.Ok.do_ok {c : CH} (h : c.Ok) (e : Ed) : (c.doC e).Ok := by
  unfold CH.doC
  split
  · rename_i h0
    have hl : (c.E.take c.d).length = c.d := by rw [List.length_take]; have := h.d; omega
    have h1 := doE_zero h0
    refine ⟨by simp [hl], fun i x hx => ?_⟩
    simp only at hx ⊢
    rcases Nat.lt_or_ge i c.d with hi | hi
    · rw [List.getElem?_append_left (by rw [hl]; exact hi), List.getElem?_take_of_lt hi] at hx
      rw [List.take_append_of_le_length (by rw [hl]; omega), List.take_take, Nat.min_eq_left (Nat.le_of_lt hi)]
      exact h.ok i x hx
    · rw [List.getElem?_append_right (by rw [hl]; exact hi), hl] at hx
      have h2 : i - c.d = 0 := by
        have := (List.getElem?_eq_some_iff.1 hx).1
        simp at this
        omega
      rw [h2] at hx
      simp at hx
      subst hx
      have h3 : i = c.d := by omega
      subst h3
      rw [List.take_append_of_le_length (by rw [hl]; exact Nat.le_refl _), List.take_take, Nat.min_self]
      exact h1
  · exact h
theorem CH.Ok.do_hs {c : CH} (h : c.Ok) (e : Ed) : (c.doC e).hs = doH c.hs e := by
  unfold CH.doC doH
  split
  · have hl : (c.E.take c.d).length = c.d := by rw [List.length_take]; have := h.d; omega
    have h1 : (c.E.take c.d ++ [e]).take (c.d + 1) = c.E.take c.d ++ [e] := List.take_of_length_le (by simp [hl])
    have h2 : (c.E.take c.d ++ [e]).drop (c.d + 1) = [] := List.drop_eq_nil_of_le (by simp [hl])
    simp only [CH.hs, CH.text, h1, h2, tx_snoc, ivs_snoc]
    rfl
  · rfl
theorem CH.Ok.undo_ok {c : CH} (h : c.Ok) : c.undoC.Ok := by
  unfold CH.undoC
  split
  · exact h
  · exact ⟨by have := h.d; simp only; omega, h.ok⟩
theorem CH.Ok.redo_ok {c : CH} (h : c.Ok) : c.redoC.Ok := by
  unfold CH.redoC
  split
  · exact h
  · exact ⟨by have := h.d; simp only; omega, h.ok⟩
/-- The edit behind place d. -/
theorem CH.Ok.at_ {c : CH} (h : c.Ok) {k : Nat} (hk : k < c.E.length) : ∃ e, c.E[k]? = some e ∧ e.ok (tx c.S (c.E.take k)).size = true ∧ (apT (tx c.S (c.E.take k)) e).size ≤ 4000 ∧
    tx c.S (c.E.take (k + 1)) = apT (tx c.S (c.E.take k)) e ∧ ivs c.S (c.E.take (k + 1)) = ivs c.S (c.E.take k) ++ [inv (tx c.S (c.E.take k)) e] := by
  have h0 := List.getElem?_eq_getElem hk
  obtain ⟨h1, h2⟩ := h.ok k _ h0
  exact ⟨_, h0, h1, h2, by rw [take_snoc_ed h0, tx_snoc], by rw [take_snoc_ed h0, ivs_snoc]⟩
theorem CH.undo_none {c : CH} (h0 : c.d = 0) : undoE c.hs = 15 ∧ undoX c.hs = ed0 ∧ undoH c.hs = c.hs ∧ c.undoC = c := by
  have hu : c.hs.U = [] := by simp [CH.hs, h0, ivs]
  unfold undoE undoX undoH CH.undoC
  rw [if_pos hu, if_pos hu, if_pos h0, hu]
  exact ⟨rfl, rfl, rfl, rfl⟩
theorem CH.Ok.undo_some {c : CH} (h : c.Ok) {k : Nat} (hk : c.d = k + 1) : ∃ e, c.E[k]? = some e ∧ e.ok (tx c.S (c.E.take k)).size = true ∧ undoE c.hs = 0 ∧ undoX c.hs = inv (tx c.S (c.E.take k)) e ∧
    c.undoC.hs = undoH c.hs ∧ c.undoC = ⟨c.S, c.E, k, c.v + 1⟩ ∧ (undoX c.hs).ok c.text.size = true ∧ apT c.text (undoX c.hs) = tx c.S (c.E.take k) := by
  obtain ⟨e, h0, h1, h2, h3, h4⟩ := h.at_ (k := k) (by have := h.d; omega)
  have ht : c.text = apT (tx c.S (c.E.take k)) e := by unfold CH.text; rw [hk, h3]
  have hu : c.hs.U = ivs c.S (c.E.take k) ++ [inv (tx c.S (c.E.take k)) e] := by
    show ivs c.S (c.E.take c.d) = _
    rw [hk, h4]
  have hn : ¬ c.hs.U = [] := by rw [hu]; simp
  have hx : undoX c.hs = inv (tx c.S (c.E.take k)) e := by unfold undoX; rw [hu]; simp
  have hc : c.undoC = ⟨c.S, c.E, k, c.v + 1⟩ := by unfold CH.undoC; rw [if_neg (by omega), hk]; rfl
  refine ⟨e, h0, h1, ?_, hx, ?_, hc, ?_, ?_⟩
  · unfold undoE; rw [if_neg hn]
  · rw [hc]
    unfold undoH
    rw [if_neg hn, hx, hu]
    have hh : c.hs.t = apT (tx c.S (c.E.take k)) e := ht
    rw [hh, inv_apT h1, inv_inv h1, List.dropLast_concat]
    have hd : c.E.drop k = e :: c.E.drop (k + 1) := drop_cons_ed h0
    have hr : c.hs.R = (c.E.drop (k + 1)).reverse := by show (c.E.drop c.d).reverse = _; rw [hk]
    rw [hr]
    simp only [CH.hs, CH.text, hd, List.reverse_cons]
  · rw [hx, ht]; exact inv_ok h1
  · rw [hx, ht]; exact inv_apT h1
theorem CH.redo_none {c : CH} (h0 : c.d = c.E.length) : redoE c.hs = 15 ∧ redoX c.hs = ed0 ∧ redoH c.hs = c.hs ∧ c.redoC = c := by
  have hu : c.hs.swap.U = [] := by simp [CH.hs, HS.swap, h0]
  unfold redoE redoX redoH undoE undoX undoH CH.redoC
  rw [if_pos hu, if_pos hu, if_pos h0, hu]
  exact ⟨rfl, rfl, rfl, rfl⟩
theorem CH.Ok.redo_some {c : CH} (h : c.Ok) (hk : c.d < c.E.length) : ∃ e, c.E[c.d]? = some e ∧ e.ok c.text.size = true ∧ redoE c.hs = 0 ∧ redoX c.hs = e ∧ c.redoC.hs = redoH c.hs ∧
    c.redoC = ⟨c.S, c.E, c.d + 1, c.v + 1⟩ ∧ c.redoC.text = apT c.text e := by
  obtain ⟨e, h0, h1, h2, h3, h4⟩ := h.at_ hk
  have hu : c.hs.swap.U = (c.E.drop (c.d + 1)).reverse ++ [e] := by
    show (c.E.drop c.d).reverse = _
    rw [drop_cons_ed h0, List.reverse_cons]
  have hn : ¬ c.hs.swap.U = [] := by rw [hu]; simp
  have hx : undoX c.hs.swap = e := by unfold undoX; rw [hu]; simp
  have hc : c.redoC = ⟨c.S, c.E, c.d + 1, c.v + 1⟩ := by unfold CH.redoC; rw [if_neg (by omega)]
  refine ⟨e, h0, h1, ?_, hx, ?_, hc, ?_⟩
  · unfold redoE undoE; rw [if_neg hn]
  · rw [hc]
    unfold redoH undoH
    rw [if_neg hn, hx, hu, List.dropLast_concat]
    simp only [CH.hs, CH.text, HS.swap, h3, h4]
  · rw [hc]; exact h3
theorem CH.Ok.step_ok {c : CH} (h : c.Ok) (x : St) : (c.stepC x).Ok := by
  unfold CH.stepC
  split
  · exact h.undo_ok
  · split
    · exact h.redo_ok
    · exact h.do_ok _
theorem CH.Ok.undo_hs {c : CH} (h : c.Ok) : c.undoC.hs = undoH c.hs := by
  rcases Nat.eq_zero_or_pos c.d with h0 | h0
  · obtain ⟨_, _, h1, h2⟩ := CH.undo_none h0
    rw [h1, h2]
  · obtain ⟨_, _, _, _, _, h1, _⟩ := h.undo_some (k := c.d - 1) (by omega)
    exact h1
theorem CH.Ok.redo_hs {c : CH} (h : c.Ok) : c.redoC.hs = redoH c.hs := by
  rcases Nat.lt_or_ge c.d c.E.length with h0 | h0
  · obtain ⟨_, _, _, _, _, h1, _⟩ := h.redo_some h0
    exact h1
  · obtain ⟨_, _, h1, h2⟩ := CH.redo_none (c := c) (by have := h.d; omega)
    rw [h1, h2]
theorem CH.Ok.step_hs {c : CH} (h : c.Ok) (x : St) : (c.stepC x).hs = stepH c.hs x := by
  unfold CH.stepC stepH
  split
  · exact h.undo_hs
  · split
    · exact h.redo_hs
    · exact h.do_hs _
theorem CH.step_S (c : CH) (x : St) : (c.stepC x).S = c.S := by
  unfold CH.stepC CH.undoC CH.redoC CH.doC
  repeat' split
  all_goals rfl
theorem CH.step_len (c : CH) (x : St) : (c.stepC x).E.length ≤ c.E.length + 1 := by
  unfold CH.stepC CH.undoC CH.redoC CH.doC
  repeat' split
  all_goals (first | omega | (simp only [List.length_append, List.length_take, List.length_cons, List.length_nil]; omega))
/-- What was returned was applied; a failed call turns nothing. -/
theorem CH.Ok.step_applied {c : CH} (h : c.Ok) (x : St) : (stepE c.hs x = 0 → (stepX c.hs x).ok c.text.size = true ∧ apT c.text (stepX c.hs x) = (c.stepC x).text) ∧ (stepE c.hs x ≠ 0 → c.stepC x = c) := by
  unfold CH.stepC stepE stepX
  split
  · rcases Nat.eq_zero_or_pos c.d with h0 | h0
    · obtain ⟨h1, _, _, h2⟩ := CH.undo_none h0
      rw [h1, h2]
      exact ⟨fun h => by omega, fun _ => rfl⟩
    · obtain ⟨e, _, _, h1, _, _, h2, h3, h4⟩ := h.undo_some (k := c.d - 1) (by omega)
      rw [h1, h2]
      exact ⟨fun _ => ⟨h3, h4⟩, fun h => absurd rfl h⟩
  · split
    · rcases Nat.lt_or_ge c.d c.E.length with h0 | h0
      · obtain ⟨e, _, h2, h1, h3, _, _, h4⟩ := h.redo_some h0
        rw [h1, h3, h4]
        exact ⟨fun _ => ⟨h2, rfl⟩, fun h => absurd rfl h⟩
      · obtain ⟨h1, _, _, h2⟩ := CH.redo_none (c := c) (by have := h.d; omega)
        rw [h1, h2]
        exact ⟨fun h => by omega, fun _ => rfl⟩
    · refine ⟨fun h0 => ?_, fun h0 => ?_⟩
      · rw [if_pos h0]
        obtain ⟨h1, h2⟩ := doE_zero h0
        refine ⟨h1, ?_⟩
        have h3 := h.do_hs x.e
        have h4 : (c.doC x.e).text = (c.doC x.e).hs.t := rfl
        rw [h4, h3]
        unfold doH
        rw [if_pos h0]
        rfl
      · unfold CH.doC; rw [if_neg h0]
/-- All sizes stay small. -/
theorem ins_le {s : ByteArray} {e : Ed} (h : e.ok s.size = true) : e.ins.size ≤ (apT s e).size := by
  have h1 := apT_size_ok h
  obtain ⟨h2, h3, h4, h5⟩ := Ed.ok_iff.1 h
  omega
theorem CH.Ok.text_le {c : CH} (h : c.Ok) (k : Nat) : (tx c.S (c.E.take k)).size ≤ c.S.size + 4000 := by
  induction k with
  | zero => simp [tx]
  | succ k ih =>
    rcases Nat.lt_or_ge k c.E.length with h0 | h0
    · obtain ⟨e, _, _, h2, h3, _⟩ := h.at_ h0
      rw [h3]; omega
    · rw [List.take_of_length_le (by omega)]
      rw [List.take_of_length_le h0] at ih
      exact ih
theorem CH.Ok.ins_le {c : CH} (h : c.Ok) {e : Ed} (he : e ∈ c.E) : e.ins.size ≤ 4000 := by
  obtain ⟨i, hi⟩ := List.mem_iff_getElem?.1 he
  obtain ⟨h1, h2⟩ := h.ok i e hi
  have := Go.Proofs.Ytepohmklbfkdfaa.ins_le h1
  omega
theorem inv_ins_le (s : ByteArray) (e : Ed) : (inv s e).ins.size ≤ s.size := by
  unfold inv
  split
  · simp only [ByteArray.size_extract]; omega
  · exact Nat.zero_le _
theorem CH.Ok.ivs_le {c : CH} (h : c.Ok) (k : Nat) : ∀ e ∈ ivs c.S (c.E.take k), e.ins.size ≤ c.S.size + 4000 := by
  induction k with
  | zero => simp [ivs]
  | succ k ih =>
    rcases Nat.lt_or_ge k c.E.length with h0 | h0
    · obtain ⟨e, _, _, h2, _, h4⟩ := h.at_ h0
      rw [h4]
      intro x hx
      rcases List.mem_append.1 hx with hx | hx
      · exact ih x hx
      · rw [List.mem_singleton] at hx
        subst hx
        have h5 := inv_ins_le (tx c.S (c.E.take k)) e
        have h6 := h.text_le k
        omega
    · rw [List.take_of_length_le (by omega)]
      rw [List.take_of_length_le h0] at ih
      exact ih
/-- What a history's walks want to know of its sizes. -/
structure HS.Small (h : HS) (B L : Nat) : Prop where
  t : h.t.size ≤ B
  U : ∀ e ∈ h.U, e.ins.size ≤ B
  R : ∀ e ∈ h.R, e.ins.size ≤ B
  u : h.U.length ≤ L
  r : h.R.length ≤ L
theorem CH.Ok.small {c : CH} (h : c.Ok) {B L : Nat} (hB : c.S.size + 4000 ≤ B) (hL : c.E.length ≤ L) : c.hs.Small B L := by
  refine ⟨Nat.le_trans (h.text_le c.d) hB, fun e he => Nat.le_trans (h.ivs_le c.d e he) hB, fun e he => ?_, ?_, ?_⟩
  · have := h.ins_le (List.mem_of_mem_drop (List.mem_reverse.1 he))
    omega
  · show (ivs c.S (c.E.take c.d)).length ≤ L
    rw [ivs_length, List.length_take]
    omega
  · show (c.E.drop c.d).reverse.length ≤ L
    rw [List.length_reverse, List.length_drop]
    omega
theorem HS.Small.swap {h : HS} {B L : Nat} (hs : h.Small B L) : h.swap.Small B L := ⟨hs.t, hs.R, hs.U, hs.r, hs.u⟩
theorem CH.depth (c : CH) (h : c.Ok) : c.hs.U.length = c.d ∧ c.hs.R.length = c.E.length - c.d := by
  refine ⟨?_, ?_⟩
  · show (ivs c.S (c.E.take c.d)).length = c.d
    rw [ivs_length, List.length_take]
    have := h.d
    omega
  · show (c.E.drop c.d).reverse.length = _
    rw [List.length_reverse, List.length_drop]
end Go.Proofs.Ytepohmklbfkdfaa
