/- The reference's Undo, Redo, Do and Run, on a chain of edits. -/
import Derived.Test.YtepohmklbfkdfaaURefD
import Derived.Test.YtepohmklbfkdfaaURest
namespace Go.Proofs.Ytepohmklbfkdfaa
open Go.RowKit

/-- A state of the reference in memory. -/
structure RefSt (w : World) (P : Nat → Prop) (c : CH) (A : Option Addr) (n cp : Nat) : Prop where
  r : Reads w w.heap.size 3 A n (eds c.E)
  le : n ≤ cp
  loc : ∀ b off, A = some ⟨b, off, none⟩ → 0 < n → P b
def stV (c : CH) (A : Option Addr) (n cp : Nat) : Value := .agg #[.string c.S, .slice A n cp, .int .i64 c.d, .int .i64 c.v]
def edV (e : Ed) : Value := .agg #[.int .i64 e.pos, .int .i64 e.del, .string e.ins]
theorem RefSt.below {w w' : World} {P : Nat → Prop} {c : CH} {A : Option Addr} {n cp : Nat} (h : RefSt w P c A n cp) (hb : Below w.heap.size w w') : RefSt w' P c A n cp := ⟨(h.r.below hb).more hb.size, h.le, h.loc⟩
theorem RefSt.mono {w : World} {P P' : Nat → Prop} {c : CH} {A : Option Addr} {n cp : Nat} (h : RefSt w P c A n cp) (hp : ∀ b, P b → P' b) : RefSt w P' c A n cp := ⟨h.r, h.le, fun b off e hn => hp b (h.loc b off e hn)⟩
theorem RefSt.chg {w : World} {P : Nat → Prop} {c c' : CH} {A : Option Addr} {n cp : Nat} (h : RefSt w P c A n cp) (hE : c'.E = c.E) : RefSt w P c' A n cp := ⟨by rw [hE]; exact h.r, h.le, h.loc⟩
theorem RefSt.touch {w w' : World} {P F : Nat → Prop} {c : CH} {A : Option Addr} {n cp : Nat} (h : RefSt w P c A n cp) (ht : Touch F w w') (hd : ∀ b, P b → ¬ F b) : RefSt w' P c A n cp := by
  refine ⟨⟨h.r.1, fun hn => ?_⟩, h.le, h.loc⟩
  obtain ⟨b, off, e, hb, hc⟩ := h.r.2 hn
  have := ht.size
  exact ⟨b, off, e, by omega, fun j u hu => (World.cell?_of_block (a := ⟨b, off + j, none⟩) (ht.block b hb (hd b (h.loc b off e hn)))).trans (hc j u hu)⟩
def RetSt (c : CH) (x : Ed) (er : Int) (P : Nat → Prop) (w : World) (e : Ending) (w' : World) : Prop :=
  ∃ A n cp, e = .returned (.tuple #[stV c A n cp, edV x, .int .i64 er]) ∧ RefSt w' (fun b => P b ∨ w.heap.size ≤ b) c A n cp ∧ Below w.heap.size w w'
def RetDo (c : CH) (er : Int) (P : Nat → Prop) (w : World) (e : Ending) (w' : World) : Prop :=
  ∃ A n cp, e = .returned (.tuple #[stV c A n cp, .int .i64 er]) ∧ RefSt w' (fun b => P b ∨ w.heap.size ≤ b) c A n cp ∧ Below w.heap.size w w'
theorem stV_eq {S : ByteArray} {E : List Ed} {d v : Nat} {A : Option Addr} {n cp : Nat} : stV ⟨S, E, d, v⟩ A n cp = .agg #[.string S, .slice A n cp, .int .i64 d, .int .i64 v] := rfl

theorem refUndoC_any (s : ByteArray) (k : Nat) (c : CH) (P : Nat → Prop) (A : Option Addr) (n cp : Nat) (w : World) (hc : CInv s k c) (hs : s.size ≤ 20000) (hk : k ≤ 800) (hr : RefSt w P c A n cp) :
    Calls Try.prog 23 #[stV c A n cp] w (RetSt c.undoC (undoX c.hs) (undoE c.hs) P w) := by
  have hln := hr.r.len_eds
  have hEl := hc.E
  have hv := hc.v
  rcases Nat.eq_zero_or_pos c.d with h0 | h0
  · obtain ⟨a1, a2, _, a4⟩ := CH.undo_none h0
    rw [a1, a2, a4]
    have hst : stV c A n cp = .agg #[.string c.S, .slice A n cp, .int .i64 0, .int .i64 c.v] := by unfold stV; rw [h0]; rfl
    rw [hst]
    refine (refUndo0_any c.S A n cp c.v w).mono ?_
    rintro e w' ⟨rfl, hb⟩
    exact ⟨A, n, cp, by rw [hst]; rfl, (hr.below hb).mono (fun _ h => .inl h), hb⟩
  · obtain ⟨e, h1, h2, h3, h4, h5, h6, _⟩ := hc.ok.undo_some (k := c.d - 1) (by omega)
    have hdl := hc.ok.d
    rw [h3, h4, h6]
    have hst : stV c A n cp = .agg #[.string c.S, .slice A n cp, .int .i64 (((c.d - 1 : Nat) : Int) + 1), .int .i64 c.v] := by
      have e0 : ((c.d : Nat) : Int) = ((c.d - 1 : Nat) : Int) + 1 := by omega
      unfold stV
      rw [e0]
    rw [hst]
    refine (refUndo_any c.S A n cp w.heap.size (c.d - 1) c.v c.E e w hr.r (Nat.le_refl _) (by omega) (by omega) (hc.fine hs) h1 (by omega)).mono ?_
    rintro e' w' ⟨rfl, hb⟩
    exact ⟨A, n, cp, rfl, ((hr.below hb).mono (fun _ h => Or.inl h)).chg rfl, hb⟩
theorem refRedoC_any (s : ByteArray) (k : Nat) (c : CH) (P : Nat → Prop) (A : Option Addr) (n cp : Nat) (w : World) (hc : CInv s k c) (hk : k ≤ 800) (hr : RefSt w P c A n cp) :
    Calls Try.prog 24 #[stV c A n cp] w (RetSt c.redoC (redoX c.hs) (redoE c.hs) P w) := by
  have hln := hr.r.len_eds
  have hEl := hc.E
  have hv := hc.v
  have hdl := hc.ok.d
  rcases Nat.lt_or_ge c.d c.E.length with h0 | h0
  · obtain ⟨e, h1, _, h3, h4, _, h6, _⟩ := hc.ok.redo_some h0
    rw [h3, h4, h6]
    refine (refRedo_any c.S A n cp w.heap.size c.d c.v c.E e w hr.r (Nat.le_refl _) (by omega) (by omega) h1 (by omega)).mono ?_
    rintro e' w' ⟨rfl, hb⟩
    exact ⟨A, n, cp, rfl, ((hr.below hb).mono (fun _ h => Or.inl h)).chg rfl, hb⟩
  · have hd : c.d = c.E.length := by omega
    obtain ⟨a1, a2, _, a4⟩ := CH.redo_none hd
    rw [a1, a2, a4]
    have hst : stV c A n cp = .agg #[.string c.S, .slice A n cp, .int .i64 n, .int .i64 c.v] := by unfold stV; rw [hd, hln]
    rw [hst]
    refine (refRedo0_any c.S A n cp c.v w).mono ?_
    rintro e w' ⟨rfl, hb⟩
    exact ⟨A, n, cp, by rw [hst]; rfl, (hr.below hb).mono (fun _ h => .inl h), hb⟩
theorem refDoC_any (s : ByteArray) (k : Nat) (c : CH) (P : Nat → Prop) (A : Option Addr) (n cp : Nat) (a b : Int) (t : ByteArray) (w : World) (hc : CInv s k c) (hs : s.size ≤ 20000) (hk : k ≤ 800) (ht : t.size ≤ 1048576) (hr : RefSt w P c A n cp) :
    Calls Try.prog 25 #[stV c A n cp, .agg #[.int .i64 a, .int .i64 b, .string t]] w (RetDo (c.doC ⟨a, b, t⟩) (doE c.hs ⟨a, b, t⟩) P w) := by
  have hln := hr.r.len_eds
  have hEl := hc.E
  have hv := hc.v
  have hdl := hc.ok.d
  have hE : doE c.hs ⟨a, b, t⟩ = if Ed.ok (tx c.S (c.E.take c.d)).size ⟨a, b, t⟩ then (if (apT (tx c.S (c.E.take c.d)) ⟨a, b, t⟩).size ≤ 4000 then 0 else 11) else 2 := rfl
  cases hok : Ed.ok (tx c.S (c.E.take c.d)).size ⟨a, b, t⟩ with
  | false =>
    rw [hok] at hE
    have hE2 : doE c.hs ⟨a, b, t⟩ = 2 := hE
    rw [hE2, CH.do_no (by rw [hE2]; decide)]
    refine (refDo2_any c.S A n cp w.heap.size c.d c.v c.E a b t w hr.r (Nat.le_refl _) (by omega) (by omega) (hc.fine hs) ht (by omega) hok).mono ?_
    rintro e w' ⟨rfl, hb⟩
    exact ⟨A, n, cp, rfl, (hr.below hb).mono (fun _ h => .inl h), hb⟩
  | true =>
    rw [hok, if_pos rfl] at hE
    by_cases hbig : (apT (tx c.S (c.E.take c.d)) ⟨a, b, t⟩).size ≤ 4000
    · rw [if_pos hbig] at hE
      rw [hE, CH.do_eq hE]
      refine (refDo0_any c.S A n cp w.heap.size c.d c.v c.E a b t w hr.r (Nat.le_refl _) (by omega) (by omega) (hc.fine hs) ht (by omega) hr.le hok hbig).mono ?_
      rintro e w' ⟨A', c', rfl, hcap, hloc, hr', hb⟩
      exact ⟨A', c.d + 1, c', rfl, ⟨hr', hcap, fun b off e _ => .inr (hloc b off e)⟩, hb⟩
    · rw [if_neg hbig] at hE
      rw [hE, CH.do_no (by rw [hE]; decide)]
      refine (refDo11_any c.S A n cp w.heap.size c.d c.v c.E a b t w hr.r (Nat.le_refl _) (by omega) (by omega) (hc.fine hs) ht (by omega) hok hbig).mono ?_
      rintro e w' ⟨rfl, hb⟩
      exact ⟨A, n, cp, rfl, (hr.below hb).mono (fun _ h => .inl h), hb⟩
end Go.Proofs.Ytepohmklbfkdfaa
