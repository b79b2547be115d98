/- Two charts (or cells), each laid into a box of its own: what lasts. -/
import Derived.Test.YthakcefgbggkcaaDoorTwoBox
namespace Go.Proofs.YthakcefgbggkcaaDoor
open Go.RowKit

theorem upd_same (d : Nat → Bool) (k : Nat) : upd d k k = true := by simp [upd]
theorem upd_ne {d : Nat → Bool} {k j : Nat} (h : j ≠ k) : upd d k j = d j := by simp [upd, h]
theorem tmps_of_eval {a : Act} {k : Nat} {v : Value} (h : a.eval (.tmp k) = v) (hk : k < a.tmps.size) : a.tmps[k] = v := by
  simpa [Act.eval, hk] using h
theorem touch1 (w : World) (g i : Nat) (u : Value) : Touch (fun k => k = g) w (w.setCell ⟨g, i, none⟩ u) := Touch.setCell (F := fun k => k = g) (Touch.refl _ w) (p := ⟨g, i, none⟩) (.inl rfl) u
theorem touch3 (w : World) (g : Nat) (a b c : Value) : Touch (fun k => k = g) w (((w.setCell ⟨g, 0, none⟩ a).setCell ⟨g, 1, none⟩ b).setCell ⟨g, 2, none⟩ c) :=
  Touch.setCell (F := fun k => k = g) (Touch.setCell (F := fun k => k = g) (touch1 w g 0 a) (p := ⟨g, 1, none⟩) (.inl rfl) b) (p := ⟨g, 2, none⟩) (.inl rfl) c
theorem touch4 (w : World) (g : Nat) (a b c e : Value) : Touch (fun k => k = g) w ((((w.setCell ⟨g, 0, none⟩ a).setCell ⟨g, 1, none⟩ b).setCell ⟨g, 2, none⟩ c).setCell ⟨g, 3, none⟩ e) :=
  Touch.setCell (F := fun k => k = g) (touch3 w g a b c) (p := ⟨g, 3, none⟩) (.inl rfl) e
theorem Blk.set3 {w : World} {g : Nat} {t : TypeId} {a0 a1 a2 : Value} (h : Blk w g t #[a0, a1, a2]) (x0 x1 x2 : Value) : Blk (((w.setCell ⟨g, 0, none⟩ x0).setCell ⟨g, 1, none⟩ x1).setCell ⟨g, 2, none⟩ x2) g t #[x0, x1, x2] := by
  have := ((h.set_ 0 x0).set_ 1 x1).set_ 2 x2
  simpa using this
/-- A row of cells does not lie where a fresh chart does. -/
theorem reads_ne {w : World} {B n b off p : Nat} {t : TypeId} {cs : List Cl} (h : Reads w B 4 (some ⟨b, off, none⟩) n (cls cs)) (h0 : 0 < n) (hk : Blk w p t #[.int .i64 0, .int .i64 0, .slice none 0 0]) : b ≠ p := by
  intro e
  subst e
  obtain ⟨b', off', y, hA, _, hy, c0, c1, c2, c3⟩ := h.cl_at h0
  injection hA with hA
  injection hA with e1 e2
  subst e1 e2
  rw [hk.cell] at c2
  simp only [Nat.zero_mul, Nat.add_zero] at c2
  match off, c2 with
  | 0, c2 => simp at c2
  | n + 1, c2 => simp at c2
/-- A chart that a call has handed back. -/
def ChPhi (nc : Nat) (R : List Rl) (L : List Ar) (N S : Nat) (c : Array Value) (w : World) : Prop := ∃ A cc cs, c = #[.int .i64 N, .int .i64 S, .slice A nc cc] ∧ Reads w w.heap.size 4 A nc (cls cs) ∧ Chart R L N S cs
theorem chPhi_lasts {nc : Nat} {R : List Rl} {L : List Ar} {N S : Nat} (h0 : 0 < nc) : Lasts 34 #[.int .i64 0, .int .i64 0, .slice none 0 0] (ChPhi nc R L N S) := by
  constructor
  · rintro c w w' ⟨A, cc, cs, e, hr, hc⟩ hb
    exact ⟨A, cc, cs, e, (hr.below hb).more hb.size, hc⟩
  · rintro c w w' g ⟨A, cc, cs, e, hr, hc⟩ hk ht
    refine ⟨A, cc, cs, e, ⟨hr.1, fun hn => ?_⟩, hc⟩
    obtain ⟨b, off, rfl, hb, hcell⟩ := hr.2 hn
    have hne := reads_ne hr h0 hk
    exact ⟨b, off, rfl, by have := ht.size; omega, fun j u hu => (World.cell?_of_block (ht.block b hb hne)).trans (hcell j u hu)⟩
end Go.Proofs.YthakcefgbggkcaaDoor
