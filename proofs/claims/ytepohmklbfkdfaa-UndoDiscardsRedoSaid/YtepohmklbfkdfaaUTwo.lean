/- Two histories apart; a history of Do alone. -/
import Derived.Test.YtepohmklbfkdfaaUAll
import Derived.Test.YtepohmklbfkdfaaURest
namespace Go.Proofs.Ytepohmklbfkdfaa
open Go.RowKit

def Two (w : World) (N g1 : Nat) (h1 : HS) (g2 : Nat) (h2 : HS) : Prop :=
  ∃ F1 F2 : Nat → Prop, Hist w F1 g1 h1 ∧ Hist w F2 g2 h2 ∧ (∀ k, F1 k → N ≤ k ∧ k < w.heap.size ∧ ¬ F2 k) ∧ (∀ k, F2 k → N ≤ k ∧ k < w.heap.size)
section
variable {w w' : World} {N g1 g2 : Nat} {h1 h2 : HS}
theorem Two.swap (h : Two w N g1 h1 g2 h2) : Two w N g2 h2 g1 h1 := by
  obtain ⟨F1, F2, a, b, c, d⟩ := h
  exact ⟨F2, F1, b, a, fun k hk => ⟨(d k hk).1, (d k hk).2, fun h => (c k h).2.2 hk⟩, fun k hk => ⟨(c k hk).1, (c k hk).2.1⟩⟩
theorem Two.below (h : Two w N g1 h1 g2 h2) (hb : Below w.heap.size w w') : Two w' N g1 h1 g2 h2 := by
  obtain ⟨F1, F2, a, b, c, d⟩ := h
  have := hb.size
  exact ⟨F1, F2, a.below hb, b.below hb, fun k hk => ⟨(c k hk).1, by have := (c k hk).2.1; omega, (c k hk).2.2⟩, fun k hk => ⟨(d k hk).1, by have := (d k hk).2; omega⟩⟩
theorem Two.alloc (h : Two w N g1 h1 g2 h2) (o : Obj) : Two (w.alloc o) N g1 h1 g2 h2 := h.below ((Below.refl _ _).alloc (Nat.le_refl _) _)
theorem Two.drewN (h : Two w N g1 h1 g2 h2) (n : Nat) : Two (w.drewN n) N g1 h1 g2 h2 := h
theorem Two.drew (h : Two w N g1 h1 g2 h2) : Two w.drew N g1 h1 g2 h2 := h
/-- A call on the first. -/
theorem Two.open1 (h : Two w N g1 h1 g2 h2) (hN : N ≤ w.heap.size) : ∃ F, Hist w F g1 h1 ∧ ∀ h' w', HPost w F g1 h' w' → Two w' N g1 h' g2 h2 ∧ Below N w w' := by
  obtain ⟨F1, F2, a, b, c, d⟩ := h
  refine ⟨F1, a, fun h' w' hp => ?_⟩
  obtain ⟨G, p1, p2, p3⟩ := hp
  obtain ⟨G', q1, q2⟩ := p1.precise
  have hs := p2.size
  refine ⟨⟨G', F2, q2, b.touch p2 (fun k hk h => (c k h).2.2 hk), fun k hk => ?_, fun k hk => ⟨(d k hk).1, by have := (d k hk).2; omega⟩⟩, p2.toBelow (fun k hk => (c k hk).1) hN⟩
  obtain ⟨g1', g2'⟩ := q1 k hk
  rcases p3 k g1' with h | h
  · exact ⟨(c k h).1, g2', (c k h).2.2⟩
  · exact ⟨by omega, g2', fun h' => by have := (d k h').2; omega⟩
theorem Two.open2 (h : Two w N g1 h1 g2 h2) (hN : N ≤ w.heap.size) : ∃ F, Hist w F g2 h2 ∧ ∀ h' w', HPost w F g2 h' w' → Two w' N g1 h1 g2 h' ∧ Below N w w' := by
  obtain ⟨F, a, b⟩ := h.swap.open1 hN
  exact ⟨F, a, fun h' w' hp => ⟨(b h' w' hp).1.swap, (b h' w' hp).2⟩⟩
theorem Two.t1 (h : Two w N g1 h1 g2 h2) : w.cell? ⟨g1, 0, none⟩ = some (.string h1.t) := by
  obtain ⟨F1, F2, a, b, c, d⟩ := h
  exact a.text
theorem Two.t2 (h : Two w N g1 h1 g2 h2) : w.cell? ⟨g2, 0, none⟩ = some (.string h2.t) := h.swap.t1
end
theorem two_new (s : ByteArray) (w : World) (N : Nat) (hN : N ≤ w.heap.size) :
    Two ((w.alloc (.cells #[.string s, .int .i64 0, .slice none 0 0, .slice none 0 0] 54)).alloc (.cells #[.string s, .int .i64 0, .slice none 0 0, .slice none 0 0] 54)) N w.heap.size (CH.new s).hs (w.heap.size + 1) (CH.new s).hs := by
  have a := (new_hist s w (fun k => k = w.heap.size) rfl).alloc (.cells #[.string s, .int .i64 0, .slice none 0 0, .slice none 0 0] 54)
  have b := new_hist s (w.alloc (.cells #[.string s, .int .i64 0, .slice none 0 0, .slice none 0 0] 54)) (fun k => k = w.heap.size + 1) (by simp)
  simp only [World.size_alloc] at b
  exact ⟨_, _, a, b, fun k hk => ⟨by omega, by simp; omega, by omega⟩, fun k hk => ⟨by omega, by simp; omega⟩⟩

/-- The history after the first i steps, each of them a Do. -/
def doN (s : ByteArray) (l : List St) : Nat → CH
  | 0 => CH.new s
  | i + 1 => (doN s l i).doC (l[i]?.getD ⟨0, ed0⟩).e
theorem doN_inv (s : ByteArray) (l : List St) : ∀ i, CInv s i (doN s l i)
  | 0 => CInv.new s
  | i + 1 => (doN_inv s l i).do_ _
theorem doN_full (s : ByteArray) (l : List St) : ∀ i, (doN s l i).d = (doN s l i).E.length
  | 0 => rfl
  | i + 1 => by
    have ih := doN_full s l i
    have ho := (doN_inv s l i).ok
    show ((doN s l i).doC _).d = ((doN s l i).doC _).E.length
    generalize (l[i]?.getD ⟨0, ed0⟩).e = e
    by_cases h0 : doE (doN s l i).hs e = 0
    · rw [CH.do_eq h0]
      exact (ho.do_at e).2.2.symm
    · rw [CH.do_no h0]; exact ih
theorem doN_step (s : ByteArray) (l : List St) (i : Nat) : (doN s l i).E = (doN s l (i + 1)).E.take (doN s l i).d ∧ (doN s l i).d ≤ (doN s l (i + 1)).d := by
  have ih := doN_full s l i
  have ho := (doN_inv s l i).ok
  have hx : doN s l (i + 1) = (doN s l i).doC (l[i]?.getD ⟨0, ed0⟩).e := rfl
  rw [hx]
  generalize (l[i]?.getD ⟨0, ed0⟩).e = e
  by_cases h0 : doE (doN s l i).hs e = 0
  · rw [CH.do_eq h0]
    refine ⟨?_, Nat.le_succ _⟩
    simp only
    rw [(ho.do_at e).2.1, List.take_of_length_le (by omega)]
  · rw [CH.do_no h0]
    exact ⟨by rw [List.take_of_length_le (by omega)], Nat.le_refl _⟩
theorem doN_prefix (s : ByteArray) (l : List St) (i : Nat) : ∀ k, (doN s l i).E = (doN s l (i + k)).E.take (doN s l i).d ∧ (doN s l i).d ≤ (doN s l (i + k)).d
  | 0 => ⟨by rw [Nat.add_zero, List.take_of_length_le (by rw [doN_full]; exact Nat.le_refl _)], Nat.le_refl _⟩
  | k + 1 => by
    obtain ⟨a, b⟩ := doN_prefix s l i k
    obtain ⟨c, d⟩ := doN_step s l (i + k)
    refine ⟨?_, Nat.le_trans b d⟩
    rw [a, c, List.take_take, Nat.min_eq_left b]
    rfl
/-- Two histories with the same text. -/
theorem doE_text {c c' : CH} (h : c.text = c'.text) (e : Ed) : doE c.hs e = doE c'.hs e := by
  show (if e.ok c.text.size then _ else _) = (if e.ok c'.text.size then _ else _)
  have h1 : c.hs.t = c'.hs.t := h
  rw [h, h1]
theorem doC_text {c c' : CH} (ho : c.Ok) (ho' : c'.Ok) (h : c.text = c'.text) (e : Ed) : (c.doC e).text = (c'.doC e).text := by
  have h1 : (c.doC e).text = (c.doC e).hs.t := rfl
  have h2 : (c'.doC e).text = (c'.doC e).hs.t := rfl
  rw [h1, h2, ho.do_hs, ho'.do_hs]
  unfold doH
  rw [doE_text h e]
  have h3 : c.hs.t = c'.hs.t := h
  split
  · rw [h3]
  · exact h3
theorem do_redo {c : CH} (ho : c.Ok) {e : Ed} (h0 : doE c.hs e = 0) : redoE (c.doC e).hs = 15 ∧ redoH (c.doC e).hs = (c.doC e).hs := by
  have : (c.doC e).d = (c.doC e).E.length := by
    rw [CH.do_eq h0]
    exact (ho.do_at e).2.2.symm
  exact ⟨(CH.redo_none this).1, (CH.redo_none this).2.2.1⟩
end Go.Proofs.Ytepohmklbfkdfaa
