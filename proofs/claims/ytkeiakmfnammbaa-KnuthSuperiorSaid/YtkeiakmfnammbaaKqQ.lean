/- A queue in memory. -/
import Derived.Test.YtkeiakmfnammbaaPqMap
import Derived.Test.YtkeiakmfnammbaaPqTouch
import Derived.Test.YtkeiakmfnammbaaKqEnt
namespace Go.Proofs.Ytkeiakmfnammbaa
open Go.RowKit

theorem ents_put : ∀ (l : List Ent) (i : Nat) (e : Ent), i < l.length → ((((((ents l).set (i * 5) (.int .i64 e.node)).set (i * 5 + 1) (.int .i64 e.cost)).set (i * 5 + 2) (.int .i64 e.size)).set (i * 5 + 3) (.int .i64 (e.h : Nat))).set (i * 5 + 4) (.int .i64 (e.t : Nat))) = ents (l.set i e)
  | [], _, _, h => absurd h (Nat.not_lt_zero _)
  | x :: l, 0, e, _ => by simp [ents, Ent.cells]
  | x :: l, i + 1, e, h => by
    have ih := ents_put l i e (by simpa using h)
    have e1 : ents (x :: l) = x.cells ++ ents l := by simp [ents]
    have e2 : ents ((x :: l).set (i + 1) e) = x.cells ++ ents (l.set i e) := by simp [ents]
    have hx : x.cells.length = 5 := rfl
    have hs : ∀ (m : List Value) (j : Nat) (u : Value), (x.cells ++ m).set ((i + 1) * 5 + j) u = x.cells ++ m.set (i * 5 + j) u := fun m j u => by
      rw [List.set_append_right _ _ (by omega), hx]
      congr 2
      omega
    have hs0 : ∀ (m : List Value) (u : Value), (x.cells ++ m).set ((i + 1) * 5) u = x.cells ++ m.set (i * 5) u := fun m u => hs m 0 u
    rw [e1, e2, ← ih]
    simp only [hs, hs0]
/-- A new element and a new time; the handle stays. -/
theorem ents_putx : ∀ (l : List Ent) (i : Nat) (e : Ent), (∃ y, l[i]? = some y ∧ y.h = e.h) → (((((ents l).set (i * 5) (.int .i64 e.node)).set (i * 5 + 1) (.int .i64 e.cost)).set (i * 5 + 2) (.int .i64 e.size)).set (i * 5 + 4) (.int .i64 (e.t : Nat))) = ents (l.set i e)
  | [], _, _, h => by obtain ⟨y, h, _⟩ := h; simp at h
  | x :: l, 0, e, h => by
    obtain ⟨y, h, hh⟩ := h
    simp at h
    subst h
    simp [ents, Ent.cells, hh]
  | x :: l, i + 1, e, h => by
    have ih := ents_putx l i e (by simpa using h)
    have e1 : ents (x :: l) = x.cells ++ ents l := by simp [ents]
    have e2 : ents ((x :: l).set (i + 1) e) = x.cells ++ ents (l.set i e) := by simp [ents]
    have hx : x.cells.length = 5 := rfl
    have hs : ∀ (m : List Value) (j : Nat) (u : Value), (x.cells ++ m).set ((i + 1) * 5 + j) u = x.cells ++ m.set (i * 5 + j) u := fun m j u => by
      rw [List.set_append_right _ _ (by omega), hx]
      congr 2
      omega
    have hs0 : ∀ (m : List Value) (u : Value), (x.cells ++ m).set ((i + 1) * 5) u = x.cells ++ m.set (i * 5) u := fun m u => hs m 0 u
    rw [e1, e2, ← ih]
    simp only [hs, hs0]

/-- The row of the entries. -/
def OwnE (w : World) (A : Option Addr) (c : Nat) (l : List Ent) : Prop := w.ownsRow 0 79 5 (.slice A l.length c) l.length (ents l)
section
variable {w w' : World} {A : Option Addr} {c : Nat} {l : List Ent}
theorem OwnE.reads (h : OwnE w A c l) : Reads w w.heap.size 5 A l.length (ents l) := Reads.of_own h
theorem OwnE.form (h : OwnE w A c l) {i : Nat} (hi : i < l.length) : ∃ g cur, A = some ⟨g, 0, none⟩ ∧ Blk w g 79 cur := by
  rcases h.2 with ⟨hv, h0⟩ | ⟨g, cap, cur, hv, _, hg, _⟩
  · omega
  · injection hv with h1 h2 h3
    subst h1
    exact ⟨g, cur, rfl, hg⟩
theorem OwnE.at_ {g : Nat} (h : OwnE w (some ⟨g, 0, none⟩) c l) {k : Nat} {t : Ent} (ht : l[k]? = some t) : w.cell? ⟨g, k * 5, none⟩ = some (.int .i64 t.node) ∧ w.cell? ⟨g, k * 5 + 1, none⟩ = some (.int .i64 t.cost) ∧ w.cell? ⟨g, k * 5 + 2, none⟩ = some (.int .i64 t.size) ∧ w.cell? ⟨g, k * 5 + 3, none⟩ = some (.int .i64 (t.h : Nat)) ∧ w.cell? ⟨g, k * 5 + 4, none⟩ = some (.int .i64 (t.t : Nat)) := by
  obtain ⟨b, off, t', e, _, ht', hc⟩ := h.reads.ent_at (List.getElem?_eq_some_iff.1 ht).1
  injection e with e
  injection e with e1 e2 _
  subst e1 e2
  rw [ht] at ht'
  injection ht' with ht'
  subst ht'
  simpa using hc
theorem OwnE.frozen {g : Nat} (h : OwnE w (some ⟨g, 0, none⟩) c l) (o : Nat) : w.frozen? ⟨g, o, none⟩ = false := by
  rcases h.2 with ⟨hv, _⟩ | ⟨g', cap, cur, hv, _, hg, _⟩
  · injection hv with h1; cases h1
  · injection hv with h1
    injection h1 with h1
    injection h1 with h1
    subst h1
    exact Blk.frozen (t := 79) (cs := cur) hg o
theorem own_setCell {base : Nat} {e : TypeId} {size n g c : Nat} {xs : List Value} (h : w.ownsRow base e size (.slice (some ⟨g, 0, none⟩) n c) n xs) (o : Nat) (u : Value) (ho : o < n * size) :
    (w.setCell ⟨g, o, none⟩ u).ownsRow base e size (.slice (some ⟨g, 0, none⟩) n c) n (xs.set o u) := by
  refine ⟨by rw [List.length_set]; exact h.1, ?_⟩
  rcases h.2 with ⟨hv, _⟩ | ⟨g', cap, cur, hv, hb, hg, h1, h2, h3, h4⟩
  · injection hv with h1; cases h1
  · injection hv with e1 e2 e3
    injection e1 with e1
    injection e1 with e1
    subst e1 e3
    refine .inr ⟨g, c, cur.setIfInBounds o u, rfl, hb, ?_, h1, h2, by simpa using h3, ?_⟩
    · exact (Blk.set_ (g := g) (t := e) (cs := cur) hg o u)
    · rw [← h4, Array.toList_setIfInBounds]
      apply List.ext_getElem?
      intro k
      simp only [List.getElem?_take, List.getElem?_set, List.length_take]
      have hsz : cur.toList.length = c * size := by simpa using h3
      have hle : n * size ≤ c * size := Nat.mul_le_mul_right _ h1
      by_cases e2 : o = k
      · subst e2
        simp [ho, hsz, Nat.min_eq_left hle, Nat.lt_of_lt_of_le ho hle]
      · simp [e2]
theorem OwnE.put {g : Nat} (h : OwnE w (some ⟨g, 0, none⟩) c l) {i : Nat} (hi : i < l.length) (e : Ent) : OwnE (((((w.setCell ⟨g, i * 5, none⟩ (.int .i64 e.node)).setCell ⟨g, i * 5 + 1, none⟩ (.int .i64 e.cost)).setCell ⟨g, i * 5 + 2, none⟩ (.int .i64 e.size)).setCell ⟨g, i * 5 + 3, none⟩ (.int .i64 (e.h : Nat))).setCell ⟨g, i * 5 + 4, none⟩ (.int .i64 (e.t : Nat))) (some ⟨g, 0, none⟩) c (l.set i e) := by
  have hm : i * 5 + 5 ≤ l.length * 5 := by have := Nat.mul_le_mul_right 5 (show i + 1 ≤ l.length from hi); omega
  unfold OwnE at h ⊢
  rw [List.length_set, ← ents_put l i e hi]
  exact own_setCell (own_setCell (own_setCell (own_setCell (own_setCell h _ _ (by omega)) _ _ (by omega)) _ _ (by omega)) _ _ (by omega)) _ _ (by omega)
theorem OwnE.putx {g : Nat} (h : OwnE w (some ⟨g, 0, none⟩) c l) {i : Nat} {y : Ent} (hy : l[i]? = some y) (e : Ent) (hh : y.h = e.h) : OwnE ((((w.setCell ⟨g, i * 5, none⟩ (.int .i64 e.node)).setCell ⟨g, i * 5 + 1, none⟩ (.int .i64 e.cost)).setCell ⟨g, i * 5 + 2, none⟩ (.int .i64 e.size)).setCell ⟨g, i * 5 + 4, none⟩ (.int .i64 (e.t : Nat))) (some ⟨g, 0, none⟩) c (l.set i e) := by
  have hi := (List.getElem?_eq_some_iff.1 hy).1
  have hm : i * 5 + 5 ≤ l.length * 5 := by have := Nat.mul_le_mul_right 5 (show i + 1 ≤ l.length from hi); omega
  unfold OwnE at h ⊢
  rw [List.length_set, ← ents_putx l i e ⟨y, hy, hh⟩]
  exact own_setCell (own_setCell (own_setCell (own_setCell h _ _ (by omega)) _ _ (by omega)) _ _ (by omega)) _ _ (by omega)
theorem OwnE.take (h : OwnE w A c l) {m : Nat} (hm : m ≤ l.length) : OwnE w A c (l.take m) := by
  unfold OwnE at h ⊢
  have hl : (l.take m).length = m := by rw [List.length_take]; omega
  have he : ents (l.take m) = (ents l).take (m * 5) := by
    have e1 : ents l = ents (l.take m) ++ ents (l.drop m) := by rw [← ents_append, List.take_append_drop]
    have e2 : (ents (l.take m)).length = m * 5 := by rw [ents_length, hl]
    rw [e1, ← e2, List.take_left]
  rw [hl]
  refine ⟨by rw [ents_length, hl], ?_⟩
  rcases h.2 with ⟨hv, h0⟩ | ⟨g, cap, cur, hv, hb, hg, h1, h2, h3, h4⟩
  · injection hv with e1 e2 e3
    subst e1 e3
    obtain rfl : m = 0 := by omega
    exact .inl ⟨rfl, rfl⟩
  · injection hv with e1 e2 e3
    subst e1 e3
    refine .inr ⟨g, c, cur, rfl, hb, hg, by omega, h2, h3, ?_⟩
    rw [he, ← h4, List.take_take]
    congr 1
    have := Nat.mul_le_mul_right 5 hm
    omega
end

/-- The queue's block, its row, its map; all of F. -/
def QM (w : World) (F : Nat → Prop) (q : Nat) (l : List Ent) (nx ck : Nat) (f : Int → Option Nat) : Prop :=
  ∃ A c b, Blk w q 75 #[.func (.func 30) #[] #[], .slice A l.length c, .map (some b), .int .i64 nx, .int .i64 ck] ∧ OwnE w A c l ∧ MapI w b nx f ∧ F q ∧ F b ∧ ∀ k, (Value.slice A l.length c).ownBlock = some k → F k
/-- The map gives the places of the handles. -/
structure Agree (l : List Ent) (f : Int → Option Nat) : Prop where
  to : ∀ (i : Nat) (e : Ent), l[i]? = some e → f (e.h : Int) = some i
  fro : ∀ (k : Int) (i : Nat), f k = some i → ∃ e, l[i]? = some e ∧ (e.h : Int) = k
section
variable {F G : Nat → Prop} {w w' : World} {q nx ck : Nat} {l : List Ent} {f : Int → Option Nat}
theorem QM.touch (h : QM w F q l nx ck f) (ht : Touch G w w') (hd : ∀ k, F k → ¬ G k) : QM w' F q l nx ck f := by
  obtain ⟨A, c, b, K, O, M, h1, h2, h3⟩ := h
  exact ⟨A, c, b, K.touch ht (hd _ h1), own_touch O ht (fun k hk => hd k (h3 k hk)), M.keep (ht.block b M.lt (hd b h2)), h1, h2, h3⟩
theorem QM.below (h : QM w F q l nx ck f) (hb : Below w.heap.size w w') : QM w' F q l nx ck f := h.touch (Touch.of_below (F := fun _ => False) hb) (fun _ _ h => h)
theorem QM.mono (h : QM w F q l nx ck f) (hF : ∀ k, F k → G k) : QM w G q l nx ck f := by
  obtain ⟨A, c, b, K, O, M, h1, h2, h3⟩ := h
  exact ⟨A, c, b, K, O, M, hF _ h1, hF _ h2, fun k hk => hF k (h3 k hk)⟩
theorem QM.precise (h : QM w F q l nx ck f) : ∃ G : Nat → Prop, (∀ k, G k → F k ∧ k < w.heap.size) ∧ QM w G q l nx ck f := by
  obtain ⟨A, c, b, K, O, M, h1, h2, h3⟩ := h
  exact ⟨fun k => F k ∧ k < w.heap.size, fun _ hk => hk, A, c, b, K, O, M, ⟨h1, K.lt⟩, ⟨h2, M.lt⟩, fun k hk => ⟨h3 k hk, own_lt O hk⟩⟩
theorem QM.drewN (h : QM w F q l nx ck f) (n : Nat) : QM (w.drewN n) F q l nx ck f := h.below (below_drewN (Below.refl _ _) n)
end
end Go.Proofs.Ytkeiakmfnammbaa
