/- Rows of rules and arcs of the call's own: a price, a cost changed. -/
import Derived.Test.YthakcefgbggkcaaDoorChMono
import Derived.Test.YthakcefgbggkcaaDoorChLSpan
namespace Go.Proofs.YthakcefgbggkcaaDoor
open Go.RowKit

theorem infoRl : (Tryd.prog.info? 65).map (fun i => (i.zero, i.size, i.bytes)) = some (some (.agg #[.int .i64 0, .int .i64 0, .int .i64 0, .int .i64 0, .int .i64 0, .int .i64 0]), 6, 48) := by kernel_rfl
theorem infoAr : (Tryd.prog.info? 68).map (fun i => (i.zero, i.size, i.bytes)) = some (some (.agg #[.int .i64 0, .int .i64 0, .int .i64 0, .int .i64 0, .slice none 0 0]), 5, 56) := by kernel_rfl
theorem rls_one {l : List Rl} {v : Value} (h : v ∈ rls l) : v.oneCell' = true := flat_one (f := Rl.cells) (P := fun v => v.oneCell' = true) (fun r u hu => by simp [Rl.cells] at hu; rcases hu with rfl | rfl | rfl | rfl | rfl | rfl <;> rfl) h
theorem ars_one {l : List Ar} {v : Value} (h : v ∈ ars l) : v.oneCell' = true := flat_one (f := Ar.cells) (P := fun v => v.oneCell' = true) (fun r u hu => by simp [Ar.cells] at hu; rcases hu with rfl | rfl | rfl | rfl | rfl <;> rfl) h
theorem rls_price : ∀ (l : List Rl) (i : Nat) (r : Rl) (p' : Int), l[i]? = some r → (rls l).set (i * 6 + 4) (.int .i64 p') = rls (l.set i { r with p := p' })
  | [], _, _, _, h => by simp at h
  | x :: l, 0, r, p', h => by
    simp at h
    subst h
    simp [rls, Rl.cells]
  | x :: l, i + 1, r, p', h => by
    simp at h
    have ih := rls_price l i r p' h
    have e1 : rls (x :: l) = x.cells ++ rls l := by simp [rls]
    have e2 : rls ((x :: l).set (i + 1) { r with p := p' }) = x.cells ++ rls (l.set i { r with p := p' }) := by simp [rls]
    have hx : x.cells.length = 6 := rfl
    rw [e1, e2, ← ih, List.set_append_right _ _ (by omega), hx]
    congr 2
    omega
theorem ars_cost : ∀ (l : List Ar) (i : Nat) (a : Ar) (c' : Int), l[i]? = some a → (ars l).set (i * 5 + 3) (.int .i64 c') = ars (l.set i { a with co := c' })
  | [], _, _, _, h => by simp at h
  | x :: l, 0, a, c', h => by
    simp at h
    subst h
    simp [ars, Ar.cells]
  | x :: l, i + 1, a, c', h => by
    simp at h
    have ih := ars_cost l i a c' h
    have e1 : ars (x :: l) = x.cells ++ ars l := by simp [ars]
    have e2 : ars ((x :: l).set (i + 1) { a with co := c' }) = x.cells ++ ars (l.set i { a with co := c' }) := by simp [ars]
    have hx : x.cells.length = 5 := rfl
    rw [e1, e2, ← ih, List.set_append_right _ _ (by omega), hx]
    congr 2
    omega
theorem orow_form {w : World} {base n size : Nat} {e : TypeId} {v : Value} {xs : List Value} (h : w.ownsRow base e size v n xs) (hn : 0 < n) : ∃ g c, v = .slice (some ⟨g, 0, none⟩) n c ∧ base ≤ g ∧ g < w.heap.size ∧ n ≤ c := by
  rcases h.2 with ⟨_, h0⟩ | ⟨g, cap, cur, hv, hb, hg, h1, _⟩
  · omega
  · exact ⟨g, cap, hv, hb, (Array.getElem?_eq_some_iff.1 hg).1, h1⟩
theorem orow_far {w : World} {base n size g c : Nat} {e : TypeId} {xs : List Value} (h : w.ownsRow base e size (.slice (some ⟨g, 0, none⟩) n c) n xs) {p : Addr} (hp : g ≠ p.block) (u : Value) : (w.setCell p u).ownsRow base e size (.slice (some ⟨g, 0, none⟩) n c) n xs := by
  refine ⟨h.1, ?_⟩
  rcases h.2 with ⟨hv, _⟩ | ⟨g', cap, cur, hv, hb, hg, rest⟩
  · injection hv with h1; cases h1
  · have hv' := hv
    injection hv with h1
    injection h1 with h1
    injection h1 with h1
    subst h1
    exact .inr ⟨g, cap, cur, hv', hb, Blk.far (t := e) (cs := cur) hg hp u, rest⟩
theorem orow_frozen {w : World} {base n size g c : Nat} {e : TypeId} {xs : List Value} (h : w.ownsRow base e size (.slice (some ⟨g, 0, none⟩) n c) n xs) (o : Nat) : w.frozen? ⟨g, o, none⟩ = false := by
  rcases h.2 with ⟨hv, _⟩ | ⟨g', cap, cur, hv, hb, hg, _⟩
  · injection hv with h1; cases h1
  · injection hv with h1
    injection h1 with h1
    injection h1 with h1
    subst h1
    exact Blk.frozen (t := e) (cs := cur) hg o
theorem orow_cell {w : World} {base n size g c : Nat} {e : TypeId} {xs : List Value} (h : w.ownsRow base e size (.slice (some ⟨g, 0, none⟩) n c) n xs) (hn : 0 < n) {j : Nat} {u : Value} (hu : xs[j]? = some u) : w.cell? ⟨g, j, none⟩ = some u := by
  obtain ⟨b, off, hA, _, hc⟩ := (Reads.of_own h).2 hn
  injection hA with hA
  injection hA with h1 h2
  subst h1 h2
  have := hc j u hu
  rw [Nat.zero_add] at this
  exact this
end Go.Proofs.YthakcefgbggkcaaDoor
