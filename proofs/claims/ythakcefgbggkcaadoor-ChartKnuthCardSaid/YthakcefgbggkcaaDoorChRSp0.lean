/- The reference's Span: its memory, its measure. -/
import Derived.Test.YthakcefgbggkcaaDoorChImp
import Derived.Test.YthakcefgbggkcaaDoorCMh
namespace Go.Proofs.YthakcefgbggkcaaDoor
open Go.RowKit

theorem cls_put : ∀ (l : List Cl) (i : Nat) (e : Cl), i < l.length → (((((cls l).set (i * 4) (.int .i64 e.v.c)).set (i * 4 + 1) (.int .i64 e.v.s)).set (i * 4 + 2) (.int .i64 e.r)).set (i * 4 + 3) (.int .i64 e.a)) = cls (l.set i e)
  | [], _, _, h => absurd h (Nat.not_lt_zero _)
  | x :: l, 0, e, _ => by simp [cls, Cl.cells]
  | x :: l, i + 1, e, h => by
    have ih := cls_put l i e (by simpa using h)
    have e1 : cls (x :: l) = x.cells ++ cls l := by simp [cls]
    have e2 : cls ((x :: l).set (i + 1) e) = x.cells ++ cls (l.set i e) := by simp [cls]
    have hx : x.cells.length = 4 := rfl
    have hs : ∀ (m : List Value) (j : Nat) (u : Value), (x.cells ++ m).set ((i + 1) * 4 + j) u = x.cells ++ m.set (i * 4 + j) u := fun m j u => by
      rw [List.set_append_right _ _ (by omega), hx]
      congr 2
      omega
    have hs0 : ∀ (m : List Value) (u : Value), (x.cells ++ m).set ((i + 1) * 4) u = x.cells ++ m.set (i * 4) u := fun m u => hs m 0 u
    rw [e1, e2, ← ih]
    simp only [hs, hs0]
/-- A row of cells of the call's own. -/
def CO (w : World) (base g c N : Nat) (own : List Cl) : Prop := own.length = N ∧ w.ownsRow base 47 4 (.slice (some ⟨g, 0, none⟩) N c) N (cls own)
theorem CO.of {w : World} {base N : Nat} {v : Value} {own : List Cl} (h : w.ownsRow base 47 4 v own.length (cls own)) (hl : own.length = N) (hN : 0 < N) : ∃ g c, v = .slice (some ⟨g, 0, none⟩) N c ∧ CO w base g c N own := by
  rw [hl] at h
  obtain ⟨g, c, rfl⟩ : ∃ g c, v = .slice (some ⟨g, 0, none⟩) N c := by
    rcases h.2 with ⟨_, h0⟩ | ⟨g, cap, cur, hv, _⟩
    · omega
    · exact ⟨g, cap, hv⟩
  exact ⟨g, c, rfl, hl, h⟩
section
variable {w w' : World} {base g c N : Nat} {own : List Cl}
theorem CO.below (h : CO w base g c N own) (hb : Below w.heap.size w w') : CO w' base g c N own := ⟨h.1, own_below h.2 hb⟩
theorem CO.lt (h : CO w base g c N own) : base ≤ g ∧ g < w.heap.size := h.2.lt g rfl
theorem CO.reads (h : CO w base g c N own) : Reads w w.heap.size 4 (some ⟨g, 0, none⟩) N (cls own) := Reads.of_own h.2
theorem CO.frozen (h : CO w base g c N own) (o : Nat) : w.frozen? ⟨g, o, none⟩ = false := by
  rcases h.2.2 with ⟨hv, _⟩ | ⟨g', cap, cur, hv, _, hg, _⟩
  · injection hv with h1; cases h1
  · injection hv with h1
    injection h1 with h1
    injection h1 with h1
    subst h1
    exact Blk.frozen (t := 47) (cs := cur) hg o
theorem CO.cell (h : CO w base g c N own) {k : Nat} (hk : k < N) : ∃ x, own[k]? = some x ∧ w.cell? ⟨g, k * 4, none⟩ = some (.int .i64 x.v.c) ∧ w.cell? ⟨g, k * 4 + 1, none⟩ = some (.int .i64 x.v.s) ∧ w.cell? ⟨g, k * 4 + 2, none⟩ = some (.int .i64 x.r) ∧ w.cell? ⟨g, k * 4 + 3, none⟩ = some (.int .i64 x.a) := by
  obtain ⟨b, off, x, hA, _, hx, c0, c1, c2, c3⟩ := h.reads.cl_at hk
  injection hA with hA
  injection hA with h1 h2
  subst h1 h2
  simp only [Nat.zero_add] at c0 c1 c2 c3
  exact ⟨x, hx, c0, c1, c2, c3⟩
theorem CO.put (h : CO w base g c N own) {i : Nat} (hi : i < N) (e : Cl) :
    CO ((((w.setCell ⟨g, i * 4, none⟩ (.int .i64 e.v.c)).setCell ⟨g, i * 4 + 1, none⟩ (.int .i64 e.v.s)).setCell ⟨g, i * 4 + 2, none⟩ (.int .i64 e.r)).setCell ⟨g, i * 4 + 3, none⟩ (.int .i64 e.a)) base g c N (own.set i e) := by
  have hm : i * 4 + 4 ≤ N * 4 := by have := Nat.mul_le_mul_right 4 (show i + 1 ≤ N from hi); omega
  refine ⟨by rw [List.length_set]; exact h.1, ?_⟩
  rw [← cls_put own i e (by rw [h.1]; exact hi)]
  exact own_setCell (own_setCell (own_setCell (own_setCell h.2 _ _ (by omega)) _ _ (by omega)) _ _ (by omega)) _ _ (by omega)
end
def sumcl : List Value → Nat
  | .int _ c :: .int _ s :: .int _ r :: .int _ a :: l => crk ⟨⟨c, s⟩, r, a⟩ + sumcl l
  | _ => 0
theorem sumcl_cls : ∀ l : List Cl, sumcl (cls l) = crks l
  | [] => rfl
  | x :: l => by
    have ih := sumcl_cls l
    have e : cls (x :: l) = .int .i64 x.v.c :: .int .i64 x.v.s :: .int .i64 x.r :: .int .i64 x.a :: cls l := rfl
    rw [e]
    simp only [sumcl, ih, crks, List.map_cons, List.sum_cons]
/-- The measure of the passes, read from memory. -/
def cmeas (w : World) (g N : Nat) : Nat := match w.heap[g]? with
  | some (.cells cs _ _) => sumcl (cs.toList.take (N * 4))
  | _ => 0
theorem cmeas_eq {w : World} {base g c N : Nat} {own : List Cl} (h : CO w base g c N own) : cmeas w g N = crks own := by
  rcases h.2.2 with ⟨hv, _⟩ | ⟨g', cap, cur, hv, _, hg, _, _, _, hx⟩
  · injection hv with h1; cases h1
  · injection hv with h1
    injection h1 with h1
    injection h1 with h1
    subst h1
    unfold cmeas
    rw [hg]
    simp only
    rw [hx]
    exact sumcl_cls own
theorem rneq_cl (w : World) (a b : Cl) (q : Bool) (h : (!(decide (a.v.c = b.v.c) && (decide (a.v.s = b.v.s) && (decide (a.r = b.r) && decide (a.a = b.a))))) = q) :
    (binOp .neq 47 (.agg #[.int .i64 a.v.c, .int .i64 a.v.s, .int .i64 a.r, .int .i64 a.a]) (.agg #[.int .i64 b.v.c, .int .i64 b.v.s, .int .i64 b.r, .int .i64 b.a])).run Tryd.prog w = .ok (.bool q) w := by
  rw [← h]
  simp only [binOp]
  by_cases h1 : a.v.c = b.v.c
  · by_cases h2 : a.v.s = b.v.s
    · by_cases h3 : a.r = b.r
      · by_cases h4 : a.a = b.a <;> simp [go_sem, Op.equal, Op.maxDepth, h1, h2, h3, h4]
      · simp [go_sem, Op.equal, Op.maxDepth, h1, h2, h3]
    · simp [go_sem, Op.equal, Op.maxDepth, h1, h2]
  · simp [go_sem, Op.equal, Op.maxDepth, h1]
theorem cl_eq_iff {a b : Cl} : a = b ↔ (a.v.c = b.v.c ∧ a.v.s = b.v.s ∧ a.r = b.r ∧ a.a = b.a) := by
  constructor
  · rintro rfl; exact ⟨rfl, rfl, rfl, rfl⟩
  · obtain ⟨⟨c, s⟩, r, x⟩ := a
    obtain ⟨⟨c', s'⟩, r', x'⟩ := b
    rintro ⟨h1, h2, h3, h4⟩
    simp only at h1 h2 h3 h4
    rw [h1, h2, h3, h4]
/-- The blocks of the reference's Span. -/
structure SMm (w0 w : World) (bn g c N : Nat) (k1 k2 k3 : Array Value) (own : List Cl) : Prop where
  k1 : Blk w bn 24 k1
  k2 : Blk w (bn + 1) 28 k2
  k3 : Blk w (bn + 1 + 1) 34 k3
  ow : CO w (bn + 1 + 1 + 1) g c N own
  below : Below bn w0 w
section
variable {w0 w w' : World} {bn g c N : Nat} {k1 k2 k3 : Array Value} {own : List Cl}
theorem SMm.next (h : SMm w0 w bn g c N k1 k2 k3 own) (hb : Below w.heap.size w w') : SMm w0 w' bn g c N k1 k2 k3 own :=
  ⟨h.k1.below hb h.k1.lt, h.k2.below hb h.k2.lt, h.k3.below hb h.k3.lt, h.ow.below hb, h.below.trans (hb.mono (by have := h.k1.lt; omega))⟩
theorem SMm.far {t : TypeId} {cs : Array Value} {b : Nat} (_h : SMm w0 w bn g c N k1 k2 k3 own) (hb : Blk w b t cs) (hne : b ≠ g) (i : Nat) (e : Cl) :
    Blk ((((w.setCell ⟨g, i * 4, none⟩ (.int .i64 e.v.c)).setCell ⟨g, i * 4 + 1, none⟩ (.int .i64 e.v.s)).setCell ⟨g, i * 4 + 2, none⟩ (.int .i64 e.r)).setCell ⟨g, i * 4 + 3, none⟩ (.int .i64 e.a)) b t cs :=
  (((hb.far (p := ⟨g, i * 4, none⟩) hne _).far (p := ⟨g, i * 4 + 1, none⟩) hne _).far (p := ⟨g, i * 4 + 2, none⟩) hne _).far (p := ⟨g, i * 4 + 3, none⟩) hne _
theorem SMm.put (h : SMm w0 w bn g c N k1 k2 k3 own) {i : Nat} (hi : i < N) (e : Cl) :
    SMm w0 ((((w.setCell ⟨g, i * 4, none⟩ (.int .i64 e.v.c)).setCell ⟨g, i * 4 + 1, none⟩ (.int .i64 e.v.s)).setCell ⟨g, i * 4 + 2, none⟩ (.int .i64 e.r)).setCell ⟨g, i * 4 + 3, none⟩ (.int .i64 e.a)) bn g c N k1 k2 k3 (own.set i e) := by
  have hg := h.ow.lt.1
  exact ⟨h.far h.k1 (by omega) i e, h.far h.k2 (by omega) i e, h.far h.k3 (by omega) i e, h.ow.put hi e,
    (((h.below.setCell (p := ⟨g, i * 4, none⟩) (by show bn ≤ g; omega) _).setCell (p := ⟨g, i * 4 + 1, none⟩) (by show bn ≤ g; omega) _).setCell (p := ⟨g, i * 4 + 2, none⟩) (by show bn ≤ g; omega) _).setCell (p := ⟨g, i * 4 + 3, none⟩) (by show bn ≤ g; omega) _⟩
end
end Go.Proofs.YthakcefgbggkcaaDoor
