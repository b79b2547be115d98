/- Two results, each laid into a box of its own, in whatever order: the invariant. -/
import Derived.Test.YthakcefgbggkcaaDoorRegSteps
namespace Go.Proofs.YthakcefgbggkcaaDoor
open Go.RowKit

/-- Two calls' results (x1, x2) and two boxes (y1, y2): what is known while c1, c2 (the calls), p1, p2 (the boxes), s1, s2 (the stores) have come up or not. -/
structure TB (w0 w : World) (t : TypeId) (z : Array Value) (Φ1 Φ2 : Array Value → World → Prop) (c1 c2 p1 p2 s1 s2 : Bool) (x1 x2 y1 y2 : Value) : Prop where
  bl : Below w0.heap.size w0 w
  r1 : c1 = true → ∃ c, x1 = .agg c ∧ Φ1 c w
  r2 : c2 = true → ∃ c, x2 = .agg c ∧ Φ2 c w
  b1 : p1 = true → ∃ g, y1 = .pointer (some ⟨g, 0, none⟩) ∧ w0.heap.size ≤ g ∧ (s1 = false → Blk w g t z) ∧ (s1 = true → ∃ c, x1 = .agg c ∧ Blk w g t c)
  b2 : p2 = true → ∃ g, y2 = .pointer (some ⟨g, 0, none⟩) ∧ w0.heap.size ≤ g ∧ (s2 = false → Blk w g t z) ∧ (s2 = true → ∃ c, x2 = .agg c ∧ Blk w g t c)
  ne : p1 = true → p2 = true → y1 ≠ y2
  i1 : s1 = true → c1 = true ∧ p1 = true
  i2 : s2 = true → c2 = true ∧ p2 = true
/-- What a call promises of its result outlives later calls and the filling of a box. -/
structure Lasts (t : TypeId) (z : Array Value) (Φ : Array Value → World → Prop) : Prop where
  nx : ∀ {c w w'}, Φ c w → Below w.heap.size w w' → Φ c w'
  st : ∀ {c w w' g}, Φ c w → Blk w g t z → Touch (fun k => k = g) w w' → Φ c w'
section
variable {w0 w w' : World} {t : TypeId} {z : Array Value} {Φ1 Φ2 : Array Value → World → Prop} {c1 c2 p1 p2 s1 s2 : Bool} {x1 x2 y1 y2 : Value}
theorem TB.start (hb : Below w0.heap.size w0 w) (x1 x2 y1 y2 : Value) : TB w0 w t z Φ1 Φ2 false false false false false false x1 x2 y1 y2 :=
  ⟨hb, by simp, by simp, by simp, by simp, by simp, by simp, by simp⟩
theorem TB.swap (h : TB w0 w t z Φ1 Φ2 c1 c2 p1 p2 s1 s2 x1 x2 y1 y2) : TB w0 w t z Φ2 Φ1 c2 c1 p2 p1 s2 s1 x2 x1 y2 y1 :=
  ⟨h.bl, h.r2, h.r1, h.b2, h.b1, fun a b e => h.ne b a e.symm, h.i2, h.i1⟩
/-- Behind a call, whatever it made. -/
theorem TB.next (h1 : Lasts t z Φ1) (h2 : Lasts t z Φ2) (h : TB w0 w t z Φ1 Φ2 c1 c2 p1 p2 s1 s2 x1 x2 y1 y2) (hb : Below w.heap.size w w') : TB w0 w' t z Φ1 Φ2 c1 c2 p1 p2 s1 s2 x1 x2 y1 y2 :=
  ⟨h.bl.trans (hb.mono h.bl.size), fun e => let ⟨c, e1, e2⟩ := h.r1 e; ⟨c, e1, h1.nx e2 hb⟩, fun e => let ⟨c, e1, e2⟩ := h.r2 e; ⟨c, e1, h2.nx e2 hb⟩,
    fun e => let ⟨g, e1, e2, e3, e4⟩ := h.b1 e; ⟨g, e1, e2, fun e => (e3 e).below hb (e3 e).lt, fun e => let ⟨c, e5, e6⟩ := e4 e; ⟨c, e5, e6.below hb e6.lt⟩⟩,
    fun e => let ⟨g, e1, e2, e3, e4⟩ := h.b2 e; ⟨g, e1, e2, fun e => (e3 e).below hb (e3 e).lt, fun e => let ⟨c, e5, e6⟩ := e4 e; ⟨c, e5, e6.below hb e6.lt⟩⟩, h.ne, h.i1, h.i2⟩
theorem TB.call1 (h1 : Lasts t z Φ1) (h2 : Lasts t z Φ2) (h : TB w0 w t z Φ1 Φ2 false c2 p1 p2 s1 s2 x1 x2 y1 y2) {c : Array Value} (hc : Φ1 c w') (hb : Below w.heap.size w w') : TB w0 w' t z Φ1 Φ2 true c2 p1 p2 s1 s2 (.agg c) x2 y1 y2 := by
  have h := h.next h1 h2 hb
  have hs : s1 = false := by cases hs : s1 with | false => rfl | true => exact absurd (h.i1 hs).1 (by simp)
  subst hs
  exact ⟨h.bl, fun _ => ⟨c, rfl, hc⟩, h.r2, fun e => let ⟨g, e1, e2, e3, _⟩ := h.b1 e; ⟨g, e1, e2, e3, by simp⟩, h.b2, h.ne, by simp, h.i2⟩
theorem TB.call2 (h1 : Lasts t z Φ1) (h2 : Lasts t z Φ2) (h : TB w0 w t z Φ1 Φ2 c1 false p1 p2 s1 s2 x1 x2 y1 y2) {c : Array Value} (hc : Φ2 c w') (hb : Below w.heap.size w w') : TB w0 w' t z Φ1 Φ2 c1 true p1 p2 s1 s2 x1 (.agg c) y1 y2 :=
  (h.swap.call1 h2 h1 hc hb).swap
theorem TB.box1 (h1 : Lasts t z Φ1) (h2 : Lasts t z Φ2) (h : TB w0 w t z Φ1 Φ2 c1 c2 false p2 s1 s2 x1 x2 y1 y2) : TB w0 (w.alloc (.cells z t)) t z Φ1 Φ2 c1 c2 true p2 s1 s2 x1 x2 (.pointer (some ⟨w.heap.size, 0, none⟩)) y2 := by
  have hs : s1 = false := by cases hs : s1 with | false => rfl | true => exact absurd (h.i1 hs).2 (by simp)
  subst hs
  have h' := h.next h1 h2 ((Below.refl w.heap.size w).alloc (Nat.le_refl _) (.cells z t))
  refine ⟨h'.bl, h'.r1, h'.r2, fun _ => ⟨_, rfl, h.bl.size, fun _ => Blk.new w t z, by simp⟩, h'.b2, fun _ e hne => ?_, by simp, h'.i2⟩
  obtain ⟨g, e1, _, e3, e4⟩ := h.b2 e
  have hlt : g < w.heap.size := by
    cases hs : s2 with
    | false => exact (e3 hs).lt
    | true => obtain ⟨_, _, hb⟩ := e4 hs; exact hb.lt
  rw [e1] at hne
  injection hne with hne
  injection hne with hne
  injection hne with hne
  omega
theorem TB.box2 (h1 : Lasts t z Φ1) (h2 : Lasts t z Φ2) (h : TB w0 w t z Φ1 Φ2 c1 c2 p1 false s1 s2 x1 x2 y1 y2) : TB w0 (w.alloc (.cells z t)) t z Φ1 Φ2 c1 c2 p1 true s1 s2 x1 x2 y1 (.pointer (some ⟨w.heap.size, 0, none⟩)) :=
  (h.swap.box1 h2 h1).swap
theorem TB.put1 {c : Array Value} {g : Nat} (h1 : Lasts t z Φ1) (h2 : Lasts t z Φ2) (h : TB w0 w t z Φ1 Φ2 true c2 true p2 false s2 (.agg c) x2 (.pointer (some ⟨g, 0, none⟩)) y2) (hk : Blk w' g t c) (ht : Touch (fun k => k = g) w w') : TB w0 w' t z Φ1 Φ2 true c2 true p2 true s2 (.agg c) x2 (.pointer (some ⟨g, 0, none⟩)) y2 := by
  obtain ⟨g', e1, e2, e3, _⟩ := h.b1 rfl
  injection e1 with e1
  injection e1 with e1
  injection e1 with e1
  subst e1
  have K := e3 rfl
  refine ⟨h.bl.trans (ht.toBelow (fun k hk => by subst hk; exact e2) h.bl.size), fun _ => ?_, fun e => ?_, fun _ => ⟨g, rfl, e2, by simp, fun _ => ⟨c, rfl, hk⟩⟩, fun e => ?_, h.ne, fun _ => ⟨rfl, rfl⟩, h.i2⟩
  · obtain ⟨c', e5, e6⟩ := h.r1 rfl
    exact ⟨c', e5, h1.st e6 K ht⟩
  · obtain ⟨c', e5, e6⟩ := h.r2 e
    exact ⟨c', e5, h2.st e6 K ht⟩
  · obtain ⟨g2, f1, f2, f3, f4⟩ := h.b2 e
    have hne : g2 ≠ g := fun e' => h.ne rfl e (by rw [f1, e'])
    exact ⟨g2, f1, f2, fun e => (f3 e).touch ht hne, fun e => let ⟨c', f5, f6⟩ := f4 e; ⟨c', f5, f6.touch ht hne⟩⟩
theorem TB.put2 {c : Array Value} {g : Nat} (h1 : Lasts t z Φ1) (h2 : Lasts t z Φ2) (h : TB w0 w t z Φ1 Φ2 c1 true p1 true s1 false x1 (.agg c) y1 (.pointer (some ⟨g, 0, none⟩))) (hk : Blk w' g t c) (ht : Touch (fun k => k = g) w w') : TB w0 w' t z Φ1 Φ2 c1 true p1 true s1 true x1 (.agg c) y1 (.pointer (some ⟨g, 0, none⟩)) :=
  (h.swap.put1 h2 h1 hk ht).swap
/-- What stands at the end. -/
theorem TB.done (h : TB w0 w t z Φ1 Φ2 true true true true true true x1 x2 y1 y2) : ∃ ga gb a b, y1 = .pointer (some ⟨ga, 0, none⟩) ∧ y2 = .pointer (some ⟨gb, 0, none⟩) ∧ x1 = .agg a ∧ x2 = .agg b ∧ Blk w ga t a ∧ Blk w gb t b ∧ Φ1 a w ∧ Φ2 b w ∧ ga ≠ gb ∧ w0.heap.size ≤ ga ∧ w0.heap.size ≤ gb ∧ Below w0.heap.size w0 w := by
  obtain ⟨ga, e1, e2, _, e3⟩ := h.b1 rfl
  obtain ⟨gb, f1, f2, _, f3⟩ := h.b2 rfl
  obtain ⟨a, e4, e5⟩ := e3 rfl
  obtain ⟨b, f4, f5⟩ := f3 rfl
  obtain ⟨a', e6, e7⟩ := h.r1 rfl
  obtain ⟨b', f6, f7⟩ := h.r2 rfl
  have ea : a = a' := by rw [e4] at e6; injection e6
  have eb : b = b' := by rw [f4] at f6; injection f6
  subst ea eb
  exact ⟨ga, gb, a, b, e1, f1, e4, f4, e5, f5, e7, f7, fun e => h.ne rfl rfl (by rw [e1, f1, e]), e2, f2, h.bl⟩
end
end Go.Proofs.YthakcefgbggkcaaDoor
