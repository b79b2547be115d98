/- The reference's improve: its memory, its instances one by one. -/
import Derived.Test.YthakcefgbggkcaaDoorChRVal
import Derived.Test.YthakcefgbggkcaaDoorCMb
namespace Go.Proofs.YthakcefgbggkcaaDoor
open Go.RowKit

abbrev ldC (p : Operand) : Op := .load 47 p
theorem ldC_eq (p : Operand) : Op.load 47 p = ldC p := rfl
abbrev ldV (p : Operand) : Op := .load 45 p
theorem ldV_eq (p : Operand) : Op.load 45 p = ldV p := rfl
/-- The arcs that serve, of the first i. -/
def arcsK (L : List Ar) (s t : Nat) (r : Rl) (i : Nat) : List Ins := (List.range i).filterMap fun i => match L[i]? with
  | some a => if a.fits s t r.a then some ⟨i, r.p + a.co, []⟩ else none
  | none => none
theorem arcsK_all (L : List Ar) (s t : Nat) (r : Rl) : arcsK L s t r L.length = arcsOf L s t r := rfl
theorem arcsK_yes {L : List Ar} {s t : Nat} {r : Rl} {i : Nat} {a : Ar} (h : L[i]? = some a) (h1 : a.fr = s) (h2 : a.tt = t) (h3 : a.tm = r.a) : arcsK L s t r (i + 1) = arcsK L s t r i ++ [⟨i, r.p + a.co, []⟩] := by
  have hf : a.fits s t r.a = true := by simp [Ar.fits, h1, h2, h3]
  unfold arcsK
  rw [List.range_succ, List.filterMap_append]
  simp [h, hf]
theorem arcsK_no {L : List Ar} {s t : Nat} {r : Rl} {i : Nat} {a : Ar} (h : L[i]? = some a) (hn : ¬ (a.fr = s ∧ a.tt = t ∧ a.tm = r.a)) : arcsK L s t r (i + 1) = arcsK L s t r i := by
  have hf : a.fits s t r.a = false := by
    cases hc : a.fits s t r.a with
    | false => rfl
    | true => simp only [Ar.fits, Bool.and_eq_true, decide_eq_true_eq] at hc; exact absurd hc hn
  unfold arcsK
  rw [List.range_succ, List.filterMap_append]
  simp [h, hf]
/-- The first j ways to part a span. -/
def splitsK (s t : Nat) (r : Rl) (j : Nat) : List Ins := (List.range j).map fun (j : Nat) => ⟨((s + j : Nat) : Int), r.p, [⟨r.a, s, (s + j : Nat)⟩, ⟨r.b, (s + j : Nat), t⟩]⟩
theorem splitsK_all (s t : Nat) (r : Rl) : splitsK s t r (t + 1 - s) = splits s t r := rfl
theorem splitsK_next (s t : Nat) (r : Rl) (j : Nat) : splitsK s t r (j + 1) = splitsK s t r j ++ [⟨((s + j : Nat) : Int), r.p, [⟨r.a, s, (s + j : Nat)⟩, ⟨r.b, (s + j : Nat), t⟩]⟩] := by
  unfold splitsK
  rw [List.range_succ, List.map_append]
  rfl
/-- The blocks of improve. -/
structure IM (w0 w : World) (bn : Nat) (k1 k2 k3 k5 : Array Value) (x : Cl) : Prop where
  k1 : Blk w bn 24 k1
  k2 : Blk w (bn + 1) 28 k2
  k3 : Blk w (bn + 1 + 1) 34 k3
  k4 : Blk w (bn + 1 + 1 + 1) 47 #[.int .i64 0, .int .i64 0, .int .i64 0, .int .i64 0]
  k5 : Blk w (bn + 1 + 1 + 1 + 1) 65 k5
  k6 : Blk w (bn + 1 + 1 + 1 + 1 + 1) 47 #[.int .i64 x.v.c, .int .i64 x.v.s, .int .i64 x.r, .int .i64 x.a]
  below : Below bn w0 w
theorem IM.next {w0 w w' : World} {bn : Nat} {k1 k2 k3 k5 : Array Value} {x : Cl} (h : IM w0 w bn k1 k2 k3 k5 x) (hb : Below w.heap.size w w') : IM w0 w' bn k1 k2 k3 k5 x :=
  ⟨h.k1.below hb h.k1.lt, h.k2.below hb h.k2.lt, h.k3.below hb h.k3.lt, h.k4.below hb h.k4.lt, h.k5.below hb h.k5.lt, h.k6.below hb h.k6.lt, h.below.trans (hb.mono (by have := h.k1.lt; omega))⟩
theorem IM.drewN {w0 w : World} {bn : Nat} {k1 k2 k3 k5 : Array Value} {x : Cl} (h : IM w0 w bn k1 k2 k3 k5 x) (n : Nat) : IM w0 (w.drewN n) bn k1 k2 k3 k5 x := h.next (below_drewN (Below.refl _ _) n)
theorem IM.put {w0 w : World} {bn : Nat} {k1 k2 k3 k5 : Array Value} {x : Cl} (h : IM w0 w bn k1 k2 k3 k5 x) (y : Cl) :
    IM w0 ((((w.setCell ⟨bn + 1 + 1 + 1 + 1 + 1, 0, none⟩ (.int .i64 y.v.c)).setCell ⟨bn + 1 + 1 + 1 + 1 + 1, 1, none⟩ (.int .i64 y.v.s)).setCell ⟨bn + 1 + 1 + 1 + 1 + 1, 2, none⟩ (.int .i64 y.r)).setCell ⟨bn + 1 + 1 + 1 + 1 + 1, 3, none⟩ (.int .i64 y.a)) bn k1 k2 k3 k5 y := by
  have f : ∀ {g : Nat} {t : TypeId} {cs : Array Value}, g ≠ bn + 1 + 1 + 1 + 1 + 1 → Blk w g t cs → Blk ((((w.setCell ⟨bn + 1 + 1 + 1 + 1 + 1, 0, none⟩ (.int .i64 y.v.c)).setCell ⟨bn + 1 + 1 + 1 + 1 + 1, 1, none⟩ (.int .i64 y.v.s)).setCell ⟨bn + 1 + 1 + 1 + 1 + 1, 2, none⟩ (.int .i64 y.r)).setCell ⟨bn + 1 + 1 + 1 + 1 + 1, 3, none⟩ (.int .i64 y.a)) g t cs := fun hn hk =>
    (((hk.far (p := ⟨bn + 1 + 1 + 1 + 1 + 1, 0, none⟩) hn _).far (p := ⟨bn + 1 + 1 + 1 + 1 + 1, 1, none⟩) hn _).far (p := ⟨bn + 1 + 1 + 1 + 1 + 1, 2, none⟩) hn _).far (p := ⟨bn + 1 + 1 + 1 + 1 + 1, 3, none⟩) hn _
  exact ⟨f (by omega) h.k1, f (by omega) h.k2, f (by omega) h.k3, f (by omega) h.k4, f (by omega) h.k5, h.k6.set4 _ _ _ _, at_below h.below (by omega) _ _ _ _⟩
theorem reads_pair (w : World) (v u : Vl) : Reads (w.alloc (.cells #[.int .i64 v.c, .int .i64 v.s, .int .i64 u.c, .int .i64 u.s] 45)) (w.heap.size + 1) 2 (some ⟨w.heap.size, 0, none⟩) 2 (vls [v, u]) :=
  Reads.of_blk (Blk.new' w 45 #[.int .i64 v.c, .int .i64 v.s, .int .i64 u.c, .int .i64 u.s] rfl) (by omega) rfl rfl
end Go.Proofs.YthakcefgbggkcaaDoor
