/- What the undo laws' walks share: how a history goes through steps. -/
import Derived.Test.YtepohmklbfkdfaaUAwake
import Derived.Test.YtepohmklbfkdfaaRefEdit
namespace Go.Proofs.Ytepohmklbfkdfaa
open Go.RowKit

theorem CH.step_v (c : CH) (x : St) : (c.stepC x).v ≤ c.v + 1 := by
  unfold CH.stepC CH.undoC CH.redoC CH.doC
  repeat' split
  all_goals (first | omega | (simp only; omega))
/-- A history after k steps. -/
structure CInv (s : ByteArray) (k : Nat) (c : CH) : Prop where
  ok : c.Ok
  S : c.S = s
  E : c.E.length ≤ k
  v : c.v ≤ k
theorem CInv.new (s : ByteArray) : CInv s 0 (CH.new s) := ⟨CH.new_ok s, rfl, Nat.le_refl _, Nat.le_refl _⟩
theorem CInv.step {s : ByteArray} {k : Nat} {c : CH} (h : CInv s k c) (x : St) : CInv s (k + 1) (c.stepC x) :=
  ⟨h.ok.step_ok x, (c.step_S x).trans h.S, Nat.le_trans (c.step_len x) (Nat.succ_le_succ h.E), Nat.le_trans (c.step_v x) (Nat.succ_le_succ h.v)⟩
theorem CInv.small {s : ByteArray} {k : Nat} {c : CH} (h : CInv s k c) (hs : s.size ≤ 20000) (hk : k ≤ 800) : c.hs.Small 1048576 900 := h.ok.small (by rw [h.S]; omega) (by have := h.E; omega)
theorem CInv.ver {s : ByteArray} {k : Nat} {c : CH} (h : CInv s k c) (hk : k ≤ 800) : c.hs.v ≤ 1000000 := by show c.v ≤ _; have := h.v; omega
theorem CInv.mono {s : ByteArray} {k m : Nat} {c : CH} (h : CInv s k c) (hk : k ≤ m) : CInv s m c := ⟨h.ok, h.S, by have := h.E; omega, by have := h.v; omega⟩
theorem CInv.undo {s : ByteArray} {k : Nat} {c : CH} (h : CInv s k c) : CInv s (k + 1) c.undoC := h.step ⟨1, ed0⟩
theorem CInv.redo {s : ByteArray} {k : Nat} {c : CH} (h : CInv s k c) : CInv s (k + 1) c.redoC := h.step ⟨2, ed0⟩
theorem CInv.do_ {s : ByteArray} {k : Nat} {c : CH} (h : CInv s k c) (e : Ed) : CInv s (k + 1) (c.doC e) := h.step ⟨0, e⟩
theorem CInv.text_le {s : ByteArray} {k : Nat} {c : CH} (h : CInv s k c) (hs : s.size ≤ 20000) : c.text.size ≤ 24000 := by
  have := h.ok.text_le c.d
  rw [h.S] at this
  show (tx c.S (c.E.take c.d)).size ≤ _
  rw [h.S]
  omega
theorem stepX_ins {c : CH} (hs : c.hs.Small 1048576 900) (x : St) (hx : x.e.ins.size ≤ 1048576) : (stepX c.hs x).ins.size ≤ 1048576 := by
  have key : ∀ (h : HS), (∀ e ∈ h.U, e.ins.size ≤ 1048576) → (undoX h).ins.size ≤ 1048576 := by
    intro h hu
    unfold undoX
    cases hl : h.U.getLast? with
    | none => exact (by decide : ed0.ins.size ≤ 1048576)
    | some e => exact hu e (List.mem_of_getLast? hl)
  unfold stepX
  split
  · exact key _ hs.U
  · split
    · exact key _ hs.swap.U
    · split
      · exact hx
      · exact (by decide : ed0.ins.size ≤ 1048576)
theorem tl_ne (a : ByteArray) : (a.toList != a.toList) = false := by simp
theorem tl_eq (a : ByteArray) : (a.toList == a.toList) = true := by simp
end Go.Proofs.Ytepohmklbfkdfaa
