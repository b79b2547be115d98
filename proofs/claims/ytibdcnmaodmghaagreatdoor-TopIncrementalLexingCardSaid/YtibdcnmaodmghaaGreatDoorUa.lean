/- The history of edits. -/
import Derived.Test.YtibdcnmaodmghaaGreatDoorEd
import Derived.Test.YtibdcnmaodmghaaGreatDoorBase
import Derived.Deep.RegionLaw
section
namespace Go.Proofs.YtibdcnmaodmghaaGreatDoor
open Go.RowKit
set_option maxRecDepth 20000

/-- Text, version, the inverses of the undoable edits (the last one at the end), the redoable edits (the first one at the end). -/
structure HS where
  t : ByteArray
  v : Nat
  U : List Ed
  R : List Ed
def HS.swap (h : HS) : HS := ⟨h.t, h.v, h.R, h.U⟩
def doE (h : HS) (e : Ed) : Int := if e.ok h.t.size then (if (apT h.t e).size ≤ 4000 then 0 else 11) else 2
def doH (h : HS) (e : Ed) : HS := if doE h e = 0 then ⟨apT h.t e, h.v + 1, h.U ++ [inv h.t e], []⟩ else h
def undoE (h : HS) : Int := if h.U = [] then 15 else 0
def undoX (h : HS) : Ed := h.U.getLast?.getD ed0
def undoH (h : HS) : HS := if h.U = [] then h else ⟨apT h.t (undoX h), h.v + 1, h.U.dropLast, h.R ++ [inv h.t (undoX h)]⟩
def redoE (h : HS) : Int := undoE h.swap
def redoX (h : HS) : Ed := undoX h.swap
def redoH (h : HS) : HS := (undoH h.swap).swap

structure St where
  k : Nat
  e : Ed
def stepE (h : HS) (x : St) : Int := if x.k % 3 = 1 then undoE h else if x.k % 3 = 2 then redoE h else doE h x.e
def stepX (h : HS) (x : St) : Ed := if x.k % 3 = 1 then undoX h else if x.k % 3 = 2 then redoX h else if doE h x.e = 0 then x.e else ed0
def stepH (h : HS) (x : St) : HS := if x.k % 3 = 1 then undoH h else if x.k % 3 = 2 then redoH h else doH h x.e

/-- The original text, all edits, how many of them are done, the version. -/
structure CH where
  S : ByteArray
  E : List Ed
  d : Nat
  v : Nat
def tx (S : ByteArray) (l : List Ed) : ByteArray := l.foldl apT S
def ivs : ByteArray → List Ed → List Ed
  | _, [] => []
  | s, e :: l => inv s e :: ivs (apT s e) l
theorem tx_snoc (S : ByteArray) (l : List Ed) (e : Ed) : tx S (l ++ [e]) = apT (tx S l) e := by simp [tx]
theorem ivs_snoc : ∀ (l : List Ed) (S : ByteArray) (e : Ed), ivs S (l ++ [e]) = ivs S l ++ [inv (tx S l) e]
  | [], _, _ => rfl
  | x :: l, S, e => by
    simp only [List.cons_append, ivs, ivs_snoc l]
    rfl
theorem ivs_length : ∀ (l : List Ed) (S : ByteArray), (ivs S l).length = l.length
  | [], _ => rfl
  | x :: l, S => by simp [ivs, ivs_length l]
def CH.text (c : CH) : ByteArray := tx c.S (c.E.take c.d)
def CH.hs (c : CH) : HS := ⟨c.text, c.v, ivs c.S (c.E.take c.d), (c.E.drop c.d).reverse⟩
structure CH.Ok (c : CH) : Prop where
  d : c.d ≤ c.E.length
  ok : ∀ (i : Nat) (e : Ed), c.E[i]? = some e → e.ok (tx c.S (c.E.take i)).size = true ∧ (apT (tx c.S (c.E.take i)) e).size ≤ 4000
def CH.doC (c : CH) (e : Ed) : CH := if doE c.hs e = 0 then ⟨c.S, c.E.take c.d ++ [e], c.d + 1, c.v + 1⟩ else c
def CH.undoC (c : CH) : CH := if c.d = 0 then c else ⟨c.S, c.E, c.d - 1, c.v + 1⟩
def CH.redoC (c : CH) : CH := if c.d = c.E.length then c else ⟨c.S, c.E, c.d + 1, c.v + 1⟩
def CH.stepC (c : CH) (x : St) : CH := if x.k % 3 = 1 then c.undoC else if x.k % 3 = 2 then c.redoC else c.doC x.e
def CH.new (s : ByteArray) : CH := ⟨s, [], 0, 0⟩
theorem CH.new_ok (s : ByteArray) : (CH.new s).Ok := ⟨Nat.le_refl _, fun i e h => by simp [CH.new] at h⟩

theorem take_snoc_ed {l : List Ed} {k : Nat} {e : Ed} (h : l[k]? = some e) : l.take (k + 1) = l.take k ++ [e] := by
  rw [List.take_add_one, h]; rfl

theorem doE_zero {h : HS} {e : Ed} (h0 : doE h e = 0) : e.ok h.t.size = true ∧ (apT h.t e).size ≤ 4000 := by
  unfold doE at h0
  split at h0
  · split at h0
    · exact ⟨by assumption, by assumption⟩
    · omega
  · omega

theorem CH.Ok.do_ok {c : CH} (h : c.Ok) (e : Ed) : (c.doC e).Ok := by
  unfold CH.doC
  split
  · rename_i h0
    have hl : (c.E.take c.d).length = c.d := by rw [List.length_take]; have := h.d; omega
    have h1 := doE_zero h0
    refine ⟨by simp [hl], fun i x hx => ?_⟩
    simp only at hx ⊢
    rcases Nat.lt_or_ge i c.d with hi | hi
    · rw [List.getElem?_append_left (by rw [hl]; exact hi), List.getElem?_take_of_lt hi] at hx
      rw [List.take_append_of_le_length (by rw [hl]; omega), List.take_take, Nat.min_eq_left (Nat.le_of_lt hi)]
      exact h.ok i x hx
    · rw [List.getElem?_append_right (by rw [hl]; exact hi), hl] at hx
      have h2 : i - c.d = 0 := by
        have := (List.getElem?_eq_some_iff.1 hx).1
        simp at this
        omega
      rw [h2] at hx
      simp at hx
      subst hx
      have h3 : i = c.d := by omega
      subst h3
      rw [List.take_append_of_le_length (by rw [hl]; exact Nat.le_refl _), List.take_take, Nat.min_self]
      exact h1
  · exact h
theorem CH.Ok.do_hs {c : CH} (h : c.Ok) (e : Ed) : (c.doC e).hs = doH c.hs e := by
  unfold CH.doC doH
  split
  · have hl : (c.E.take c.d).length = c.d := by rw [List.length_take]; have := h.d; omega
    have h1 : (c.E.take c.d ++ [e]).take (c.d + 1) = c.E.take c.d ++ [e] := List.take_of_length_le (by simp [hl])
    have h2 : (c.E.take c.d ++ [e]).drop (c.d + 1) = [] := List.drop_eq_nil_of_le (by simp [hl])
    simp only [CH.hs, CH.text, h1, h2, tx_snoc, ivs_snoc]
    rfl
  · rfl
theorem CH.Ok.undo_ok {c : CH} (h : c.Ok) : c.undoC.Ok := by
  unfold CH.undoC
  split
  · exact h
  · exact ⟨by have := h.d; simp only; omega, h.ok⟩
theorem CH.Ok.redo_ok {c : CH} (h : c.Ok) : c.redoC.Ok := by
  unfold CH.redoC
  split
  · exact h
  · exact ⟨by have := h.d; simp only; omega, h.ok⟩
/-- The edit behind place d. -/
theorem CH.Ok.at_ {c : CH} (h : c.Ok) {k : Nat} (hk : k < c.E.length) : ∃ e, c.E[k]? = some e ∧ e.ok (tx c.S (c.E.take k)).size = true ∧ (apT (tx c.S (c.E.take k)) e).size ≤ 4000 ∧
    tx c.S (c.E.take (k + 1)) = apT (tx c.S (c.E.take k)) e ∧ ivs c.S (c.E.take (k + 1)) = ivs c.S (c.E.take k) ++ [inv (tx c.S (c.E.take k)) e] := by
  have h0 := List.getElem?_eq_getElem hk
  obtain ⟨h1, h2⟩ := h.ok k _ h0
  exact ⟨_, h0, h1, h2, by rw [take_snoc_ed h0, tx_snoc], by rw [take_snoc_ed h0, ivs_snoc]⟩
theorem CH.undo_none {c : CH} (h0 : c.d = 0) : undoE c.hs = 15 ∧ undoX c.hs = ed0 ∧ undoH c.hs = c.hs ∧ c.undoC = c := by
  have hu : c.hs.U = [] := by simp [CH.hs, h0, ivs]
  unfold undoE undoX undoH CH.undoC
  rw [if_pos hu, if_pos hu, if_pos h0, hu]
  exact ⟨rfl, rfl, rfl, rfl⟩
theorem CH.Ok.undo_some {c : CH} (h : c.Ok) {k : Nat} (hk : c.d = k + 1) : ∃ e, c.E[k]? = some e ∧ e.ok (tx c.S (c.E.take k)).size = true ∧ undoE c.hs = 0 ∧ undoX c.hs = inv (tx c.S (c.E.take k)) e ∧
    c.undoC.hs = undoH c.hs ∧ c.undoC = ⟨c.S, c.E, k, c.v + 1⟩ ∧ (undoX c.hs).ok c.text.size = true ∧ apT c.text (undoX c.hs) = tx c.S (c.E.take k) := by
  obtain ⟨e, h0, h1, h2, h3, h4⟩ := h.at_ (k := k) (by have := h.d; omega)
  have ht : c.text = apT (tx c.S (c.E.take k)) e := by unfold CH.text; rw [hk, h3]
  have hu : c.hs.U = ivs c.S (c.E.take k) ++ [inv (tx c.S (c.E.take k)) e] := by
    show ivs c.S (c.E.take c.d) = _
    rw [hk, h4]
  have hn : ¬ c.hs.U = [] := by rw [hu]; simp
  have hx : undoX c.hs = inv (tx c.S (c.E.take k)) e := by unfold undoX; rw [hu]; simp
  have hc : c.undoC = ⟨c.S, c.E, k, c.v + 1⟩ := by unfold CH.undoC; rw [if_neg (by omega), hk]; rfl
  refine ⟨e, h0, h1, ?_, hx, ?_, hc, ?_, ?_⟩
  · unfold undoE; rw [if_neg hn]
  · rw [hc]
    unfold undoH
    rw [if_neg hn, hx, hu]
    have hh : c.hs.t = apT (tx c.S (c.E.take k)) e := ht
    rw [hh, inv_apT h1, inv_inv h1, List.dropLast_concat]
    have hd : c.E.drop k = e :: c.E.drop (k + 1) := drop_cons_ed h0
    have hr : c.hs.R = (c.E.drop (k + 1)).reverse := by show (c.E.drop c.d).reverse = _; rw [hk]
    rw [hr]
    simp only [CH.hs, CH.text, hd, List.reverse_cons]
  · rw [hx, ht]; exact inv_ok h1
  · rw [hx, ht]; exact inv_apT h1
theorem CH.redo_none {c : CH} (h0 : c.d = c.E.length) : redoE c.hs = 15 ∧ redoX c.hs = ed0 ∧ redoH c.hs = c.hs ∧ c.redoC = c := by
  have hu : c.hs.swap.U = [] := by simp [CH.hs, HS.swap, h0]
  unfold redoE redoX redoH undoE undoX undoH CH.redoC
  rw [if_pos hu, if_pos hu, if_pos h0, hu]
  exact ⟨rfl, rfl, rfl, rfl⟩
theorem CH.Ok.redo_some {c : CH} (h : c.Ok) (hk : c.d < c.E.length) : ∃ e, c.E[c.d]? = some e ∧ e.ok c.text.size = true ∧ redoE c.hs = 0 ∧ redoX c.hs = e ∧ c.redoC.hs = redoH c.hs ∧
    c.redoC = ⟨c.S, c.E, c.d + 1, c.v + 1⟩ ∧ c.redoC.text = apT c.text e := by
  obtain ⟨e, h0, h1, h2, h3, h4⟩ := h.at_ hk
  have hu : c.hs.swap.U = (c.E.drop (c.d + 1)).reverse ++ [e] := by
    show (c.E.drop c.d).reverse = _
    rw [drop_cons_ed h0, List.reverse_cons]
  have hn : ¬ c.hs.swap.U = [] := by rw [hu]; simp
  have hx : undoX c.hs.swap = e := by unfold undoX; rw [hu]; simp
  have hc : c.redoC = ⟨c.S, c.E, c.d + 1, c.v + 1⟩ := by unfold CH.redoC; rw [if_neg (by omega)]
  refine ⟨e, h0, h1, ?_, hx, ?_, hc, ?_⟩
  · unfold redoE undoE; rw [if_neg hn]
  · rw [hc]
    unfold redoH undoH
    rw [if_neg hn, hx, hu, List.dropLast_concat]
    simp only [CH.hs, CH.text, HS.swap, h3, h4]
  · rw [hc]; exact h3
theorem CH.Ok.step_ok {c : CH} (h : c.Ok) (x : St) : (c.stepC x).Ok := by
  unfold CH.stepC
  split
  · exact h.undo_ok
  · split
    · exact h.redo_ok
    · exact h.do_ok _
theorem CH.Ok.undo_hs {c : CH} (h : c.Ok) : c.undoC.hs = undoH c.hs := by
  rcases Nat.eq_zero_or_pos c.d with h0 | h0
  · obtain ⟨_, _, h1, h2⟩ := CH.undo_none h0
    rw [h1, h2]
  · obtain ⟨_, _, _, _, _, h1, _⟩ := h.undo_some (k := c.d - 1) (by omega)
    exact h1
theorem CH.Ok.redo_hs {c : CH} (h : c.Ok) : c.redoC.hs = redoH c.hs := by
  rcases Nat.lt_or_ge c.d c.E.length with h0 | h0
  · obtain ⟨_, _, _, _, _, h1, _⟩ := h.redo_some h0
    exact h1
  · obtain ⟨_, _, h1, h2⟩ := CH.redo_none (c := c) (by have := h.d; omega)
    rw [h1, h2]
theorem CH.Ok.step_hs {c : CH} (h : c.Ok) (x : St) : (c.stepC x).hs = stepH c.hs x := by
  unfold CH.stepC stepH
  split
  · exact h.undo_hs
  · split
    · exact h.redo_hs
    · exact h.do_hs _
theorem CH.step_S (c : CH) (x : St) : (c.stepC x).S = c.S := by
  unfold CH.stepC CH.undoC CH.redoC CH.doC
  repeat' split
  all_goals rfl
theorem CH.step_len (c : CH) (x : St) : (c.stepC x).E.length ≤ c.E.length + 1 := by
  unfold CH.stepC CH.undoC CH.redoC CH.doC
  repeat' split
  all_goals (first | omega | (simp only [List.length_append, List.length_take, List.length_cons, List.length_nil]; omega))
/-- What was returned was applied; a failed call turns nothing. -/
theorem CH.Ok.step_applied {c : CH} (h : c.Ok) (x : St) : (stepE c.hs x = 0 → (stepX c.hs x).ok c.text.size = true ∧ apT c.text (stepX c.hs x) = (c.stepC x).text) ∧ (stepE c.hs x ≠ 0 → c.stepC x = c) := by
  unfold CH.stepC stepE stepX
  split
  · rcases Nat.eq_zero_or_pos c.d with h0 | h0
    · obtain ⟨h1, _, _, h2⟩ := CH.undo_none h0
      rw [h1, h2]
      exact ⟨fun h => by omega, fun _ => rfl⟩
    · obtain ⟨e, _, _, h1, _, _, h2, h3, h4⟩ := h.undo_some (k := c.d - 1) (by omega)
      rw [h1, h2]
      exact ⟨fun _ => ⟨h3, h4⟩, fun h => absurd rfl h⟩
  · split
    · rcases Nat.lt_or_ge c.d c.E.length with h0 | h0
      · obtain ⟨e, _, h2, h1, h3, _, _, h4⟩ := h.redo_some h0
        rw [h1, h3, h4]
        exact ⟨fun _ => ⟨h2, rfl⟩, fun h => absurd rfl h⟩
      · obtain ⟨h1, _, _, h2⟩ := CH.redo_none (c := c) (by have := h.d; omega)
        rw [h1, h2]
        exact ⟨fun h => by omega, fun _ => rfl⟩
    · refine ⟨fun h0 => ?_, fun h0 => ?_⟩
      · rw [if_pos h0]
        obtain ⟨h1, h2⟩ := doE_zero h0
        refine ⟨h1, ?_⟩
        have h3 := h.do_hs x.e
        have h4 : (c.doC x.e).text = (c.doC x.e).hs.t := rfl
        rw [h4, h3]
        unfold doH
        rw [if_pos h0]
        rfl
      · unfold CH.doC; rw [if_neg h0]
/-- All sizes stay small. -/
theorem ins_le {s : ByteArray} {e : Ed} (h : e.ok s.size = true) : e.ins.size ≤ (apT s e).size := by
  have h1 := apT_size_ok h
  obtain ⟨h2, h3, h4, h5⟩ := Ed.ok_iff.1 h
  omega
theorem CH.Ok.text_le {c : CH} (h : c.Ok) (k : Nat) : (tx c.S (c.E.take k)).size ≤ c.S.size + 4000 := by
  induction k with
  | zero => simp [tx]
  | succ k ih =>
    rcases Nat.lt_or_ge k c.E.length with h0 | h0
    · obtain ⟨e, _, _, h2, h3, _⟩ := h.at_ h0
      rw [h3]; omega
    · rw [List.take_of_length_le (by omega)]
      rw [List.take_of_length_le h0] at ih
      exact ih
theorem CH.Ok.ins_le {c : CH} (h : c.Ok) {e : Ed} (he : e ∈ c.E) : e.ins.size ≤ 4000 := by
  obtain ⟨i, hi⟩ := List.mem_iff_getElem?.1 he
  obtain ⟨h1, h2⟩ := h.ok i e hi
  have := Go.Proofs.YtibdcnmaodmghaaGreatDoor.ins_le h1
  omega
theorem inv_ins_le (s : ByteArray) (e : Ed) : (inv s e).ins.size ≤ s.size := by
  unfold inv
  split
  · simp only [ByteArray.size_extract]; omega
  · exact Nat.zero_le _
theorem CH.Ok.ivs_le {c : CH} (h : c.Ok) (k : Nat) : ∀ e ∈ ivs c.S (c.E.take k), e.ins.size ≤ c.S.size + 4000 := by
  induction k with
  | zero => simp [ivs]
  | succ k ih =>
    rcases Nat.lt_or_ge k c.E.length with h0 | h0
    · obtain ⟨e, _, _, h2, _, h4⟩ := h.at_ h0
      rw [h4]
      intro x hx
      rcases List.mem_append.1 hx with hx | hx
      · exact ih x hx
      · rw [List.mem_singleton] at hx
        subst hx
        have h5 := inv_ins_le (tx c.S (c.E.take k)) e
        have h6 := h.text_le k
        omega
    · rw [List.take_of_length_le (by omega)]
      rw [List.take_of_length_le h0] at ih
      exact ih
/-- What a history's walks want to know of its sizes. -/
structure HS.Small (h : HS) (B L : Nat) : Prop where
  t : h.t.size ≤ B
  U : ∀ e ∈ h.U, e.ins.size ≤ B
  R : ∀ e ∈ h.R, e.ins.size ≤ B
  u : h.U.length ≤ L
  r : h.R.length ≤ L
theorem CH.Ok.small {c : CH} (h : c.Ok) {B L : Nat} (hB : c.S.size + 4000 ≤ B) (hL : c.E.length ≤ L) : c.hs.Small B L := by
  refine ⟨Nat.le_trans (h.text_le c.d) hB, fun e he => Nat.le_trans (h.ivs_le c.d e he) hB, fun e he => ?_, ?_, ?_⟩
  · have := h.ins_le (List.mem_of_mem_drop (List.mem_reverse.1 he))
    omega
  · show (ivs c.S (c.E.take c.d)).length ≤ L
    rw [ivs_length, List.length_take]
    omega
  · show (c.E.drop c.d).reverse.length ≤ L
    rw [List.length_reverse, List.length_drop]
    omega
theorem HS.Small.swap {h : HS} {B L : Nat} (hs : h.Small B L) : h.swap.Small B L := ⟨hs.t, hs.R, hs.U, hs.r, hs.u⟩
theorem CH.depth (c : CH) (h : c.Ok) : c.hs.U.length = c.d ∧ c.hs.R.length = c.E.length - c.d := by
  refine ⟨?_, ?_⟩
  · show (ivs c.S (c.E.take c.d)).length = c.d
    rw [ivs_length, List.length_take]
    have := h.d
    omega
  · show (c.E.drop c.d).reverse.length = _
    rw [List.length_reverse, List.length_drop]
end Go.Proofs.YtibdcnmaodmghaaGreatDoor
end

section
namespace Go.Proofs.YtibdcnmaodmghaaGreatDoor
open Go.RowKit
set_option maxRecDepth 20000
variable {F G : Nat → Prop} {w w1 w' : World}

/-- Of what was there, only blocks of F are turned. -/
structure Touch (F : Nat → Prop) (w w' : World) : Prop where
  os : w'.os = w.os
  tape : w'.tape = w.tape
  output : w'.output = w.output
  size : w.heap.size ≤ w'.heap.size
  block : ∀ k, k < w.heap.size → ¬ F k → w'.heap[k]? = w.heap[k]?
theorem Touch.refl (F : Nat → Prop) (w : World) : Touch F w w := ⟨rfl, rfl, rfl, Nat.le_refl _, fun _ _ _ => rfl⟩
theorem Touch.trans (h : Touch F w w1) (h' : Touch G w1 w') (hG : ∀ k, G k → F k ∨ w.heap.size ≤ k) : Touch F w w' :=
  ⟨h'.os.trans h.os, h'.tape.trans h.tape, h'.output.trans h.output, Nat.le_trans h.size h'.size, fun k hk hF =>
    (h'.block k (Nat.lt_of_lt_of_le hk h.size) (fun g => by rcases hG k g with h | h; exact hF h; omega)).trans (h.block k hk hF)⟩
theorem Touch.mono (h : Touch F w w') (hG : ∀ k, F k → G k) : Touch G w w' := ⟨h.os, h.tape, h.output, h.size, fun k hk hn => h.block k hk (fun hf => hn (hG k hf))⟩
theorem Touch.of_below (hb : Below w.heap.size w w') : Touch F w w' := ⟨hb.os, hb.tape, hb.output, hb.size, fun k hk _ => hb.block k hk⟩
theorem Touch.below (h : Touch F w w1) (hb : Below w1.heap.size w1 w') : Touch F w w' := h.trans (Touch.of_below (F := F) hb) fun _ hk => .inl hk
theorem Touch.alloc (h : Touch F w w') (o : Obj) : Touch F w (w'.alloc o) := h.below ((Below.refl _ _).alloc (Nat.le_refl _) _)
theorem Touch.drewN (h : Touch F w w') (n : Nat) : Touch F w (w'.drewN n) := ⟨h.os, h.tape, h.output, h.size, h.block⟩
theorem Touch.setCell (h : Touch F w w') {p : Addr} (hp : F p.block ∨ w.heap.size ≤ p.block) (u : Value) : Touch F w (w'.setCell p u) :=
  h.trans (G := fun k => k = p.block) ⟨rfl, rfl, rfl, by simp [World.setCell], fun k _ hn => Below.heap_setCell w' p u k hn⟩ (fun k hk => by subst hk; exact hp)
theorem Touch.grown (h : Touch F w w1) {row : Option Nat} (hg : w1.grownBy w' row) (hr : ∀ k, row = some k → F k ∨ w.heap.size ≤ k) : Touch F w w' :=
  h.trans (G := fun k => row = some k) ⟨hg.os, hg.tape, hg.output, hg.size, fun k hk hn => hg.block k hk (fun e => hn e.symm)⟩ hr
theorem Touch.toBelow {B : Nat} (h : Touch F w w') (hF : ∀ k, F k → B ≤ k) (hB : B ≤ w.heap.size) : Below B w w' :=
  ⟨h.os, h.tape, h.output, h.size, fun k hk => h.block k (by omega) (fun hf => by have := hF k hf; omega)⟩
theorem Blk.touch {g : Nat} {t : TypeId} {cs : Array Value} (h : Blk w g t cs) (ht : Touch F w w') (hg : ¬ F g) : Blk w' g t cs := (ht.block g h.lt hg).trans h
theorem own_touch {base : Nat} {e : TypeId} {size n : Nat} {v : Value} {xs : List Value} (h : w.ownsRow base e size v n xs) (ht : Touch F w w') (hv : ∀ k, v.ownBlock = some k → ¬ F k) : w'.ownsRow base e size v n xs := by
  refine ⟨h.1, ?_⟩
  rcases h.2 with hn | ⟨g, cap, cur, rfl, hb, hgg, rest⟩
  · exact .inl hn
  · exact .inr ⟨g, cap, cur, rfl, hb, (ht.block g (Array.getElem?_eq_some_iff.1 hgg).1 (hv g rfl)).trans hgg, rest⟩
theorem own_lt {base : Nat} {e : TypeId} {size n k : Nat} {v : Value} {xs : List Value} (h : w.ownsRow base e size v n xs) (hv : v.ownBlock = some k) : k < w.heap.size := by
  rcases h.2 with ⟨rfl, _⟩ | ⟨g, cap, cur, rfl, hb, hgg, rest⟩
  · simp [Value.ownBlock] at hv
  · have : g = k := by simpa [Value.ownBlock] using hv
    subst this
    exact (Array.getElem?_eq_some_iff.1 hgg).1
theorem own_blk_ne {g : Nat} {t : TypeId} {cs : Array Value} {base : Nat} {e : TypeId} {size n : Nat} {v : Value} {xs : List Value} (h : w.ownsRow base e size v n xs) (hg : Blk w g t cs) (hne : e ≠ t) : v.ownBlock ≠ some g := by
  rcases h.2 with ⟨rfl, _⟩ | ⟨g', cap, cur, rfl, _, hh, _⟩
  · simp [Value.ownBlock]
  · intro he
    have : g' = g := by simpa [Value.ownBlock] using he
    subst this
    exact Blk.ne_ (t := e) hh hg hne rfl
end Go.Proofs.YtibdcnmaodmghaaGreatDoor
end

section
namespace Go.Proofs.YtibdcnmaodmghaaGreatDoor
open Go.RowKit
set_option maxRecDepth 20000

/-- A history: its block; its two stacks, apart from one another; all of F. -/
def Hist (w : World) (F : Nat → Prop) (g : Nat) (h : HS) : Prop :=
  ∃ vu vr, Blk w g 119 #[.string h.t, .int .i64 h.v, vu, vr] ∧ w.ownsRow 0 44 3 vu h.U.length (eds h.U) ∧ w.ownsRow 0 44 3 vr h.R.length (eds h.R) ∧ F g ∧
    (∀ k, vu.ownBlock = some k → F k) ∧ (∀ k, vr.ownBlock = some k → F k) ∧ (∀ k, vu.ownBlock = some k → vr.ownBlock ≠ some k)
section
variable {F G : Nat → Prop} {w w1 w' : World} {g : Nat} {h : HS}
theorem Hist.mono (hh : Hist w F g h) (hF : ∀ k, F k → G k) : Hist w G g h := by
  obtain ⟨vu, vr, K, hu, hr, hg, fu, fr, hx⟩ := hh
  exact ⟨vu, vr, K, hu, hr, hF _ hg, fun k hk => hF k (fu k hk), fun k hk => hF k (fr k hk), hx⟩
theorem Hist.lt (hh : Hist w F g h) : g < w.heap.size := by
  obtain ⟨vu, vr, K, _⟩ := hh
  exact K.lt
theorem Hist.precise (hh : Hist w F g h) : ∃ G : Nat → Prop, (∀ k, G k → F k ∧ k < w.heap.size) ∧ Hist w G g h := by
  obtain ⟨vu, vr, K, hu, hr, hg, fu, fr, hx⟩ := hh
  refine ⟨fun k => F k ∧ k < w.heap.size, fun _ hk => hk, vu, vr, K, hu, hr, ⟨hg, K.lt⟩, fun k hk => ⟨fu k hk, own_lt hu hk⟩, fun k hk => ⟨fr k hk, own_lt hr hk⟩, hx⟩
theorem Hist.touch (hh : Hist w F g h) (ht : Touch G w w') (hd : ∀ k, F k → ¬ G k) : Hist w' F g h := by
  obtain ⟨vu, vr, K, hu, hr, hg, fu, fr, hx⟩ := hh
  exact ⟨vu, vr, K.touch ht (hd _ hg), own_touch hu ht (fun k hk => hd k (fu k hk)), own_touch hr ht (fun k hk => hd k (fr k hk)), hg, fu, fr, hx⟩
theorem Hist.below (hh : Hist w F g h) (hb : Below w.heap.size w w') : Hist w' F g h := hh.touch (Touch.of_below (F := fun _ => False) hb) (fun _ _ h => h)
theorem Hist.drewN (hh : Hist w F g h) (n : Nat) : Hist (w.drewN n) F g h := hh
theorem Hist.alloc (hh : Hist w F g h) (o : Obj) : Hist (w.alloc o) F g h := hh.below ((Below.refl _ _).alloc (Nat.le_refl _) _)
theorem Hist.text (hh : Hist w F g h) : w.cell? ⟨g, 0, none⟩ = some (.string h.t) := by
  obtain ⟨vu, vr, K, _⟩ := hh
  exact K.cell 0
theorem Hist.ver (hh : Hist w F g h) : w.cell? ⟨g, 1, none⟩ = some (.int .i64 h.v) := by
  obtain ⟨vu, vr, K, _⟩ := hh
  exact K.cell 1
end
/-- What a call on a history leaves. -/
def HPost (w : World) (F : Nat → Prop) (g : Nat) (h : HS) (w' : World) : Prop := ∃ G : Nat → Prop, Hist w' G g h ∧ Touch F w w' ∧ ∀ k, G k → F k ∨ w.heap.size ≤ k
/-- .. where F is all from B on. -/
theorem HPost.base {w w' : World} {B g : Nat} {h : HS} (hp : HPost w (fun k => B ≤ k) g h w') (hB : B ≤ w.heap.size) : Hist w' (fun k => B ≤ k) g h ∧ Below B w w' := by
  obtain ⟨G, h1, h2, h3⟩ := hp
  exact ⟨h1.mono (fun k hk => by rcases h3 k hk with h | h; exact h; omega), h2.toBelow (fun _ h => h) hB⟩
end Go.Proofs.YtibdcnmaodmghaaGreatDoor
end

section
namespace Go.Proofs.YtibdcnmaodmghaaGreatDoor
open Go.RowKit
set_option maxRecDepth 20000

theorem unew_any (s : ByteArray) (w : World) : Calls Tryz.prog 10 #[.string s] w
    fun e w' => e = .returned (.pointer (some ⟨w.heap.size, 0, none⟩)) ∧ w' = w.alloc (.cells #[.string s, .int .i64 0, .slice none 0 0, .slice none 0 0] 119) := by
  go_enter Tryz.func10, Tryz.ntmps10
  go_wp2_with fail
  go_ret
  exact ⟨rfl, rfl⟩
theorem new_hist (s : ByteArray) (w : World) (F : Nat → Prop) (hF : F w.heap.size) :
    Hist (w.alloc (.cells #[.string s, .int .i64 0, .slice none 0 0, .slice none 0 0] 119)) F w.heap.size (CH.new s).hs :=
  ⟨.slice none 0 0, .slice none 0 0, Blk.new' _ _ _ rfl, World.ownsRow_nil _ _ _ _, World.ownsRow_nil _ _ _ _, hF, by simp [Value.ownBlock], by simp [Value.ownBlock], by simp [Value.ownBlock]⟩
theorem utext_any (g : Nat) (s : ByteArray) (w : World) (h : w.cell? ⟨g, 0, none⟩ = some (.string s)) : Calls Tryz.prog 17 #[.pointer (some ⟨g, 0, none⟩)] w
    fun e w' => e = .returned (.string s) ∧ w = w' := by
  go_enter Tryz.func17, Tryz.ntmps17
  go_wp2_with fail
  go_ret
  exact ⟨rfl, rfl⟩
theorem infoEd : (Tryz.prog.info? 44).map (fun i => (i.zero, i.size, i.bytes)) = some (some (.agg #[.int .i64 0, .int .i64 0, .string ⟨#[]⟩]), 3, 32) := by kernel_rfl
/-- push: what the field holds behind it. -/
def Pushed (w : World) (g j : Nat) (cs : Array Value) (vu : Value) (U : List Ed) (w' : World) : Prop :=
  ∃ gg cap, w'.ownsRow 0 44 3 (.slice (some ⟨gg, 0, none⟩) (U.length) cap) U.length (eds U) ∧ Blk w' g 119 (cs.setIfInBounds j (.slice (some ⟨gg, 0, none⟩) (U.length) cap)) ∧
    (vu.ownBlock = some gg ∨ w.heap.size ≤ gg) ∧ Touch (fun k => k = g ∨ vu.ownBlock = some k) w w'

theorem keep_push {w w1 : World} {g j : Nat} {v u : Value} {o o2 : Obj} (hg : ((w.alloc o).alloc o2).drew.grownBy w1 v.ownBlock) (c1 : (w.alloc o).cell? ⟨g, j, none⟩ = some u) (h1 : v.ownBlock ≠ some g) (hlt : g < w.heap.size) : w1.cell? ⟨g, j, none⟩ = some u := by
  have := hg.block g (by show g < ((w.alloc o).alloc o2).heap.size; simp; omega) (Ne.symm h1)
  exact (World.cell?_of_block (a := ⟨g, j, none⟩) this).trans (cell_alloc c1 o2)
theorem far_push {w w1 : World} {g j : Nat} {v : Value} {o o2 : Obj} (hg : ((w.alloc o).alloc o2).drew.grownBy w1 v.ownBlock) (f1 : (w.alloc o).frozen? ⟨g, j, none⟩ = false) (h1 : v.ownBlock ≠ some g) (hlt : g < w.heap.size) : w1.frozen? ⟨g, j, none⟩ = false := by
  have := hg.block g (by show g < ((w.alloc o).alloc o2).heap.size; simp; omega) (Ne.symm h1)
  refine (World.frozen?_of_block (a := ⟨g, j, none⟩) this).trans ?_
  show ((w.alloc o).alloc o2).frozen? ⟨g, j, none⟩ = false
  rw [World.frozen?_of_block (a := ⟨g, j, none⟩) (Below.heap_alloc (w.alloc o) o2 g (by simp; omega))]
  exact f1
theorem push_end {w w1 : World} {g j n gg cap c : Nat} {o o2 : Obj} {cs : Array Value} {A : Option Addr} {U : List Ed} {e : Ed} (hN : U.length = n) (K : Blk w g 119 cs) (hne : (Value.slice A n c).ownBlock ≠ some g)
    (hown1 : w1.ownsRow 0 44 3 (.slice (some ⟨gg, 0, none⟩) (n + 1) cap) (n + 1) (eds U ++ e.cells)) (hgrow : ((w.alloc o).alloc o2).drew.grownBy w1 (Value.slice A n c).ownBlock) (hat : (Value.slice A n c).ownBlock = some gg ∨ gg = w.heap.size + 1 + 1) :
    Pushed w g j cs (.slice A n c) (U ++ [e]) (w1.setCell ⟨g, j, none⟩ (.slice (some ⟨gg, 0, none⟩) (n + 1) cap)) := by
  have hT : Touch (fun k => k = g ∨ (Value.slice A n c).ownBlock = some k) w w1 := ((((Touch.refl _ _).alloc o).alloc o2).drewN 1).grown hgrow (fun k hk => .inl (.inr hk))
  have K1 : Blk w1 g 119 cs := (((K.alloc o).alloc o2).drewN 1).grown hgrow (Ne.symm hne)
  have hlen : (U ++ [e]).length = n + 1 := by rw [List.length_append, hN]; rfl
  have hg := K.lt
  have hgg : gg ≠ g := by
    rcases hat with h | h
    · intro e; subst e; exact hne h
    · omega
  refine ⟨gg, cap, ?_, ?_, ?_, ?_⟩
  · rw [hlen, eds_append]
    have e1 : eds [e] = e.cells := by simp [eds]
    rw [e1]
    exact own_touch (F := fun k => k = g) hown1 ((Touch.refl (fun k => k = g) w1).setCell (p := ⟨g, j, none⟩) (.inl rfl) _) (fun k hk e => hgg (by
      have : gg = k := by simpa [Value.ownBlock] using hk
      omega))
  · rw [hlen]
    exact K1.set_ j _
  · rcases hat with h | h
    · exact .inl h
    · right; omega
  · exact hT.setCell (.inl (.inl rfl)) _
set_option maxRecDepth 100000 in
set_option maxHeartbeats 2000000 in
theorem push_any (g j : Nat) (cs : Array Value) (vu : Value) (U : List Ed) (a b : Int) (t : ByteArray) (w : World) (K : Blk w g 119 cs) (hj : cs[j]? = some vu) (hown : w.ownsRow 0 44 3 vu U.length (eds U)) (hn : U.length ≤ 1000) :
    Calls Tryz.prog 43 #[.pointer (some ⟨g, j, none⟩), .agg #[.int .i64 a, .int .i64 b, .string t]] w
      fun e w' => e = .returned (.tuple #[]) ∧ Pushed w g j cs vu (U ++ [⟨a, b, t⟩]) w' := by
  obtain ⟨i0, hi0, hz0, hz1, hz2⟩ := info_parts infoEd
  have hne := own_blk_ne hown K (by decide)
  have hnB : vu.ownBlock ≠ some w.heap.size := fun e => by have := own_lt hown e; omega
  have hlt : ∀ k, vu.ownBlock = some k → k < w.heap.size := fun k e => own_lt hown e
  obtain ⟨n, hN⟩ : ∃ n, U.length = n := ⟨_, rfl⟩
  rw [hN] at hown hn
  obtain ⟨A, c, rfl, hnc, hcm⟩ := own_form hown
  have hg := K.lt
  have c0 := K.cell j
  rw [hj] at c0
  have HO := Lib.hid hown
  have B1 := Blk.new' w 44 #[.int .i64 a, .int .i64 b, .string t] rfl
  have c1 := cell_alloc c0 (.cells #[.int .i64 a, .int .i64 b, .string t] 44)
  have f1 : (w.alloc (.cells #[.int .i64 a, .int .i64 b, .string t] 44)).frozen? ⟨g, j, none⟩ = false := (K.alloc _).frozen j
  have HN := Lib.hid hN
  have HK := Lib.hid K
  have NEWS := Lib.hid (show ∀ j u, (Ed.cells ⟨a, b, t⟩)[j]? = some u → (((w.alloc (.cells #[.int .i64 a, .int .i64 b, .string t] 44)).alloc (.cells #[.int .i64 a, .int .i64 b, .string t] 44)).drew).cell? ((⟨w.heap.size + 1, 0, none⟩ : Addr).add j) = some u from
    fun j u hu => by
      rw [Addr.add_lit, Nat.zero_add]
      have h := (Blk.new' (w.alloc (.cells #[.int .i64 a, .int .i64 b, .string t] 44)) 44 #[.int .i64 a, .int .i64 b, .string t] rfl).cell j
      rw [World.size_alloc] at h
      refine Eq.trans h ?_
      rw [← Array.getElem?_toList]
      exact hu)
  have NE := Lib.hid hne
  have NB := Lib.hid hnB
  have LT := Lib.hid hlt
  clear hN hown c0 B1 hne hnB hlt K hj
  go_enter Tryz.func43, Tryz.ntmps43
  go_wp2_with fail
  go_region_law (first | (refine step_append_lies _ (by rfl) _ _ _ (by rfl) 0 44 i0 _ 3 32 Tryz.underlying117 hi0 hz0 hz1 hz2 rfl (by omega) _ n (eds U) (by rfl) (((HO.out.alloc _).alloc _).drew) ⟨w.heap.size + 1, 0, none⟩ 1 1 (Ed.cells ⟨a, b, t⟩) (by rfl) (by rfl) NEWS.out (by simp [Ed.cells, Value.oneCell']) (by omega) (by unfold maxLen; omega) (by omega) (Nat.zero_le _) (w.heap.size + 1 + 1) (by simp) ?_; intro gg cap w1 hown1 hgrow hat hlt; have KEEP := keep_push (v := .slice A n c) hgrow c1 NE.out hg; have fz := far_push (v := .slice A n c) hgrow f1 NE.out hg))
  all_goals (go_end0; exact ⟨rfl, push_end HN.out HK.out NE.out hown1 hgrow hat⟩)
end Go.Proofs.YtibdcnmaodmghaaGreatDoor
end

section
namespace Go.Proofs.YtibdcnmaodmghaaGreatDoor
open Go.RowKit
set_option maxRecDepth 20000

theorem results_edit_bool {fn : Func} {p q : Tmp} (h : fn.results = #[.cell p 44, .tmp q]) {tmps : Array Value} {b o : Nat} (hp : tmps.getD p undef = .pointer (some ⟨b, o, none⟩)) {w : World} {i j : Int} {t : ByteArray} {v : Value}
    (h0 : w.cell? ⟨b, o, none⟩ = some (.int .i64 i)) (h1 : w.cell? ⟨b, o + 1, none⟩ = some (.int .i64 j)) (h2 : w.cell? ⟨b, o + 2, none⟩ = some (.string t)) (hv : tmps.getD q undef = v) :
    (results fn tmps).run Tryz.prog w = .ok (.tuple #[.agg #[.int .i64 i, .int .i64 j, .string t], v]) w := results_edit_int h hp h0 h1 h2 hv

/-- pop: what the field holds behind it. -/
def Popped (w : World) (g j : Nat) (cs : Array Value) (vu : Value) (U : List Ed) (w' : World) : Prop :=
  ∃ vu', w'.ownsRow 0 44 3 vu' U.length (eds U) ∧ Blk w' g 119 (cs.setIfInBounds j vu') ∧ vu'.ownBlock = vu.ownBlock ∧ Touch (fun k => k = g) w w'
theorem own_pop {w : World} {base : Nat} {e : TypeId} {gg cap n : Nat} {U : List Ed} {x : Ed} (hn : U.length = n) (h : w.ownsRow base e 3 (.slice (some ⟨gg, 0, none⟩) (n + 1) cap) (n + 1) (eds (U ++ [x]))) :
    w.ownsRow base e 3 (.slice (some ⟨gg, 0, none⟩) n cap) n (eds U) := by
  obtain ⟨h1, h2⟩ := h
  rcases h2 with ⟨h0, _⟩ | ⟨g', cap', cur, hv, hg, hh, hn', hcap, hsz, htake⟩
  · cases h0
  · cases hv
    refine ⟨by rw [eds_length, hn], .inr ⟨gg, cap, cur, rfl, hg, hh, by omega, hcap, hsz, ?_⟩⟩
    have h3 : (cur.toList.take ((n + 1) * 3)).take (n * 3) = (eds (U ++ [x])).take (n * 3) := by rw [htake]
    rw [List.take_take, Nat.min_eq_left (by omega)] at h3
    rw [h3, eds_append, List.take_append_of_le_length (by rw [eds_length]; omega), List.take_of_length_le (by rw [eds_length]; omega)]
theorem pop_end {w w1 : World} {g j n gg cap : Nat} {cs : Array Value} {U : List Ed} {e : Ed} (hN : U.length = n) (K : Blk w1 g 119 cs) (hne : gg ≠ g) (hg : g < w.heap.size)
    (hown1 : w1.ownsRow 0 44 3 (.slice (some ⟨gg, 0, none⟩) (n + 1) cap) (n + 1) (eds (U ++ [e]))) (hb : Below w.heap.size w w1) {w2 : World} (h2 : Touch (fun k => k = w.heap.size) (w1.setCell ⟨g, j, none⟩ (.slice (some ⟨gg, 0, none⟩) n cap)) w2) (hgl : gg < w.heap.size) :
    Popped w g j cs (.slice (some ⟨gg, 0, none⟩) (n + 1) cap) U w2 := by
  have T0 : Touch (fun k => k = g) w w1 := Touch.of_below hb
  have T1 : Touch (fun k => k = g) w (w1.setCell ⟨g, j, none⟩ (.slice (some ⟨gg, 0, none⟩) n cap)) := T0.setCell (.inl rfl) _
  have T2 : Touch (fun k => k = g) w w2 := T1.trans h2 (fun k hk => by right; omega)
  refine ⟨.slice (some ⟨gg, 0, none⟩) n cap, ?_, ?_, rfl, T2⟩
  · rw [hN]
    refine own_touch (own_touch (own_pop hN hown1) ((Touch.refl (fun k => k = g) w1).setCell (p := ⟨g, j, none⟩) (.inl rfl) _) ?_) h2 ?_
    · intro k hk
      have : gg = k := by simpa [Value.ownBlock] using hk
      omega
    · intro k hk
      have : gg = k := by simpa [Value.ownBlock] using hk
      omega
  · exact (K.set_ j _).touch h2 (by omega)

end Go.Proofs.YtibdcnmaodmghaaGreatDoor
end
