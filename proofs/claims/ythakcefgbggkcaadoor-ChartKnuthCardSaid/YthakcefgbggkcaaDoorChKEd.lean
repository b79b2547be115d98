/- The hyperedges of the items, plain; rows of hyperedges under way, in memory. -/
import Derived.Test.YthakcefgbggkcaaDoorChKIdx
import Derived.Test.YthakcefgbggkcaaDoorChLocP
import Derived.Test.YthakcefgbggkcaaDoorChLSpan
namespace Go.Proofs.YthakcefgbggkcaaDoor
open Go.RowKit

/-- A hyperedge, wherever its tails lie. -/
structure Pe where
  hd : Int
  ts : List Int
  co : Int
  l0 : Int
  l1 : Int
def Ed.pe (e : Ed) : Pe := ⟨e.hd, e.ts, e.cost, e.l0, e.l1⟩
/-- The number of an item. -/
def nd (N S : Nat) (x : It) : Int := ((cix S x.f.toNat x.t.toNat * N + x.h.toNat : Nat) : Int)
/-- The hyperedge of an instance of rule number k. -/
def insPe (N S : Nat) (n : Int) (k : Nat) (i : Ins) : Pe := ⟨n, i.us.map (nd N S), min i.pr 1099511627776, (k : Int), i.arg⟩
/-- The hyperedges of an item by the first k rules. -/
def hgK (N S : Nat) (R : List Rl) (L : List Ar) (s t h : Nat) (n : Int) (k : Nat) : List Pe := (List.range k).flatMap fun j => match R[j]? with
  | some r => if r.hd.toNat = h then (insts L s t r).map (insPe N S n j) else []
  | none => []
section
variable {N S : Nat} {R : List Rl} {L : List Ar} {s t h k : Nat} {n : Int} {r : Rl}
theorem hgK_zero : hgK N S R L s t h n 0 = [] := rfl
theorem hgK_yes (hr : R[k]? = some r) (hh : r.hd.toNat = h) : hgK N S R L s t h n (k + 1) = hgK N S R L s t h n k ++ (insts L s t r).map (insPe N S n k) := by
  unfold hgK
  rw [List.range_succ, List.flatMap_append]
  simp [hr, hh]
theorem hgK_no (hr : R[k]? = some r) (hh : r.hd.toNat ≠ h) : hgK N S R L s t h n (k + 1) = hgK N S R L s t h n k := by
  unfold hgK
  rw [List.range_succ, List.flatMap_append]
  simp [hr, hh]
/-- The first j splits. -/
def splN (s t : Nat) (r : Rl) (j : Nat) : List Ins := (List.range j).map fun (j : Nat) => ⟨((s + j : Nat) : Int), r.p, [⟨r.a, s, (s + j : Nat)⟩, ⟨r.b, (s + j : Nat), t⟩]⟩
theorem splN_end : splN s t r (t + 1 - s) = splits s t r := rfl
theorem splN_step (j : Nat) : splN s t r (j + 1) = splN s t r j ++ [⟨((s + j : Nat) : Int), r.p, [⟨r.a, s, (s + j : Nat)⟩, ⟨r.b, (s + j : Nat), t⟩]⟩] := by
  unfold splN
  rw [List.range_succ, List.map_append]
  rfl
theorem insts_empty_yes (hk : r.k = 1) (h : s = t) : insts L s t r = [⟨s, r.p, []⟩] := by unfold insts; rw [if_pos hk, if_pos h]
theorem insts_empty_no (hk : r.k = 1) (h : s ≠ t) : insts L s t r = [] := by unfold insts; rw [if_pos hk, if_neg h]
theorem insts_arcs (hk : r.k = 2) : insts L s t r = arcsN L s t r L.length := by unfold insts; rw [if_neg (by omega), if_pos hk]; rfl
theorem insts_unary (hk : r.k = 3) : insts L s t r = [⟨s, r.p, [⟨r.a, s, t⟩]⟩] := by unfold insts; rw [if_neg (by omega), if_neg (by omega), if_pos hk]
theorem insts_binary (hk : r.k = 4) : insts L s t r = splN s t r (t + 1 - s) := by unfold insts; rw [if_neg (by omega), if_neg (by omega), if_neg (by omega)]; rfl
theorem arcsN_len (L : List Ar) (s t : Nat) (r : Rl) (n : Nat) : (arcsN L s t r n).length ≤ n := by
  unfold arcsN
  exact Nat.le_trans (List.length_filterMap_le _ _) (by simp)
theorem insts_few (r : Rl) : (insts L s t r).length ≤ L.length + t + 2 := by
  unfold insts
  split
  · split <;> simp
  · split
    · have : arcsOf L s t r = arcsN L s t r L.length := rfl
      rw [this]
      have := arcsN_len L s t r L.length
      omega
    · split
      · simp
      · unfold splits; simp; omega
theorem hgK_len : ∀ k, (hgK N S R L s t h n k).length ≤ k * (L.length + t + 2)
  | 0 => by simp [hgK]
  | k + 1 => by
    have ih := hgK_len k
    have e : (k + 1) * (L.length + t + 2) = k * (L.length + t + 2) + (L.length + t + 2) := Nat.succ_mul _ _
    cases hr : R[k]? with
    | none =>
      have : hgK N S R L s t h n (k + 1) = hgK N S R L s t h n k := by
        unfold hgK
        rw [List.range_succ, List.flatMap_append]
        simp [hr]
      rw [this]; omega
    | some r =>
      by_cases hh : r.hd.toNat = h
      · rw [hgK_yes hr hh, List.length_append, List.length_map]
        have := insts_few (L := L) (s := s) (t := t) r
        omega
      · rw [hgK_no hr hh]; omega
end
theorem infoHe : (Tryd.prog.info? 50).map (fun i => (i.zero, i.size, i.bytes)) = some (some (.agg #[.int .i64 0, .slice none 0 0, .int .i64 0, .int .i64 0, .int .i64 0]), 5, 56) := by kernel_rfl
theorem own_ap {w : World} {base base' : Nat} {e e' : TypeId} {size size' n n' k : Nat} {v v' : Value} {xs xs' : List Value} (h : w.ownsRow base e size v n xs) (h' : w.ownsRow base' e' size' v' n' xs') (hne : e' ≠ e) (hk : v.ownBlock = some k) : v'.ownBlock ≠ some k := by
  rcases h.2 with ⟨rfl, _⟩ | ⟨g, cap, cur, rfl, _, hg, _⟩
  · simp [Value.ownBlock] at hk
  · have : g = k := by simpa [Value.ownBlock] using hk
    subst this
    exact own_blk_ne h' (cs := cur) hg hne
theorem own_bs {w : World} {base base' : Nat} {e : TypeId} {size n : Nat} {v : Value} {xs : List Value} (h : w.ownsRow base e size v n xs) (hb : base' ≤ base) : w.ownsRow base' e size v n xs := by
  refine ⟨h.1, ?_⟩
  rcases h.2 with h1 | ⟨g, cap, cur, hv, hg, rest⟩
  · exact .inl h1
  · exact .inr ⟨g, cap, cur, hv, Nat.le_trans hb hg, rest⟩
theorem own_lo {w : World} {base : Nat} {e : TypeId} {size n k : Nat} {v : Value} {xs : List Value} (h : w.ownsRow base e size v n xs) (hv : v.ownBlock = some k) : base ≤ k := by
  rcases h.2 with ⟨rfl, _⟩ | ⟨g, cap, cur, rfl, hb, _⟩
  · simp [Value.ownBlock] at hv
  · have : g = k := by simpa [Value.ownBlock] using hv
    omega
/-- The row of a hyperedge's tails is the call's own. -/
def EdT1 (w : World) (e : Ed) : Prop := w.ownsRow 0 3 1 (.slice e.A e.ts.length e.c) e.ts.length (ints e.ts)
def EdT (w : World) (L : List Ed) : Prop := ∀ e ∈ L, EdT1 w e
section
variable {w w1 : World} {L : List Ed}
theorem EdT.nil (w : World) : EdT w [] := fun e he => by simp at he
theorem EdT1.below {e : Ed} (h : EdT1 w e) (hb : Below w.heap.size w w1) : EdT1 w1 e := own_below h hb
theorem EdT.below (h : EdT w L) (hb : Below w.heap.size w w1) : EdT w1 L := fun e he => own_below (h e he) hb
theorem EdT1.grown {e : Ed} {base n : Nat} {v : Value} {xs : List Value} (h : EdT1 w e) (hv : w.ownsRow base 50 5 v n xs) (hg : w.grownBy w1 v.ownBlock) : EdT1 w1 e :=
  own_touch (F := fun k => v.ownBlock = some k) h (Touch.grown (Touch.refl _ _) hg (fun k hk => .inl hk)) (fun k hk e1 => own_ap h hv (by decide) hk e1)
theorem EdT1.set {e : Ed} {g : Nat} {cs : Array Value} (h : EdT1 w e) (hg : Blk w g 50 cs) (i : Nat) (x : Value) : EdT1 (w.setCell ⟨g, i, none⟩ x) e :=
  own_touch (F := fun k => k = g) h (Touch.setCell (F := fun k => k = g) (Touch.refl _ w) (p := ⟨g, i, none⟩) (.inl rfl) x) (fun k hk e1 => own_blk_ne h hg (by decide) (by rw [hk, e1]))
theorem EdT1.nil (w : World) (hd co l0 l1 : Int) : EdT1 w ⟨hd, [], co, l0, l1, none, 0⟩ := ⟨rfl, .inl ⟨rfl, rfl⟩⟩
/-- A fresh row of tails. -/
theorem EdT1.new {g : Nat} {ts : List Int} (hb : Blk w g 3 (ints ts).toArray) (hn : ts.length ≤ maxLen) (hd co l0 l1 : Int) : EdT1 w ⟨hd, ts, co, l0, l1, some ⟨g, 0, none⟩, ts.length⟩ :=
  ⟨by simp [ints], .inr ⟨g, ts.length, (ints ts).toArray, rfl, Nat.zero_le _, hb, Nat.le_refl _, hn, by simp [ints], by rw [show ts.length * 1 = (ints ts).length by simp [ints]]; simp⟩⟩
end
/-- A row of hyperedges under way. -/
structure ES (w0 w : World) (v : Value) (P : List Pe) : Prop where
  bl : Below w0.heap.size w0 w
  ex : ∃ L : List Ed, L.map Ed.pe = P ∧ w.ownsRow w0.heap.size 50 5 v L.length (eds L) ∧ EdT w L
section
variable {w0 w w' : World} {v : Value} {P : List Pe}
theorem ES.start (w0 : World) : ES w0 w0 (.slice none 0 0) [] := ⟨Below.refl _ _, [], rfl, ⟨rfl, .inl ⟨rfl, rfl⟩⟩, EdT.nil _⟩
theorem ES.next (h : ES w0 w v P) (hb : Below w.heap.size w w') : ES w0 w' v P :=
  let ⟨L, h1, h2, h3⟩ := h.ex
  ⟨h.bl.trans (hb.mono h.bl.size), L, h1, own_below h2 hb, h3.below hb⟩
theorem ES.lt (h : ES w0 w v P) {k : Nat} (hk : w.heap.size ≤ k) : v.ownBlock ≠ some k := fun e =>
  let ⟨_, _, h2, _⟩ := h.ex
  by have := own_lt h2 e; omega
theorem ES.set {g : Nat} {cs : Array Value} (h : ES w0 w v P) (hg : Blk w g 50 cs) (hne : v.ownBlock ≠ some g) (h0 : w0.heap.size ≤ g) (i : Nat) (x : Value) : ES w0 (w.setCell ⟨g, i, none⟩ x) v P := by
  obtain ⟨L, h1, h2, h3⟩ := h.ex
  refine ⟨h.bl.setCell (p := ⟨g, i, none⟩) h0 x, L, h1, ?_, fun e he => (h3 e he).set hg i x⟩
  exact own_touch (F := fun k => k = g) h2 (Touch.setCell (F := fun k => k = g) (Touch.refl _ w) (p := ⟨g, i, none⟩) (.inl rfl) x) (fun k hk e1 => hne (by rw [hk, e1]))
end
/-- 'out = append(out, e)'. -/
theorem wpList_push_ed {ops : Array Oper} {rest : List Oper} {o : Oper} {a : Act} {Q : Exit → Act → World → Prop} (hgd : o.guard = none) (s x : Operand)
    (ho : o.op = .call { callee := .builtin .append, args := #[s, x], argTypes := #[36, 36] })
    (v : Value) (hs : a.eval s = v) (w0 w : World) (P : List Pe) (e : Ed) (hES : ES w0 w v P) (hT : EdT1 w e) (hP : P.length ≤ 10000000) (hx : a.eval x = .slice (some ⟨w.heap.size, 0, none⟩) 1 1)
    (h : ∀ A n c w', ES w0 w' (.slice A n c) (P ++ [e.pe]) → Below w0.heap.size w0 w' → (∀ k, k < w.heap.size → v.ownBlock ≠ some k → (Value.slice A n c).ownBlock ≠ some k) → (∀ k, k < w.heap.size → v.ownBlock ≠ some k → w'.heap[k]? = w.heap[k]?) → w.heap.size ≤ w'.heap.size → wpList Tryd.prog ops Q rest (a.put o.dst (.slice A n c)) w') :
    wpList Tryd.prog ops Q (o :: rest) a (w.alloc (.cells #[.int .i64 e.hd, .slice e.A e.ts.length e.c, .int .i64 e.cost, .int .i64 e.l0, .int .i64 e.l1] 50)) := by
  obtain ⟨i0, hi0, hz0, hz1, hz2⟩ := info_parts infoHe
  obtain ⟨L, h1, h2, h3⟩ := hES.ex
  have hb : Below w.heap.size w (w.alloc (.cells #[.int .i64 e.hd, .slice e.A e.ts.length e.c, .int .i64 e.cost, .int .i64 e.l0, .int .i64 e.l1] 50)) := (Below.refl _ _).alloc (Nat.le_refl _) _
  have hl : L.length ≤ 10000000 := by rw [← h1, List.length_map] at hP; exact hP
  have hown := own_below h2 hb
  refine wpList_append_any _ hgd s x 36 ho w0.heap.size 50 i0 (.agg #[.int .i64 0, .slice none 0 0, .int .i64 0, .int .i64 0, .int .i64 0]) 5 56 Tryd.underlying36 hi0 hz0 hz1 hz2 rfl (by decide) v L.length (eds L) hs hown
    (w.heap.size + 1) (some ⟨w.heap.size, 0, none⟩) 1 1 e.cells hx (Reads.of_blk (Blk.new' _ _ _ rfl) (Nat.lt_succ_self _) rfl rfl) (fun u hu => by simp [Ed.cells] at hu; rcases hu with rfl | rfl | rfl | rfl | rfl <;> rfl) (by unfold maxLen; omega) (by omega) (by have := hES.bl.size; simp; omega) ?_
  intro v' w' hown' hgrow hat
  obtain ⟨A, c, rfl, _, _⟩ := own_form hown'
  have hw : Below w0.heap.size w0 w' := ((hES.bl.trans (hb.mono hES.bl.size))).grown hgrow (by have := hES.bl.size; simp; omega) (fun k hk => own_lo h2 hk)
  refine h A _ c w' ⟨hw, L ++ [e], by rw [List.map_append, h1]; rfl, ?_, fun y hy => ?_⟩ hw (fun k hk hne e1 => ?_) (fun k hk hne => ?_) ?_
  · rw [List.length_append, eds_append]
    have : eds [e] = e.cells := by simp [eds]
    rw [this]
    exact hown'
  · rcases List.mem_append.1 hy with hy | hy
    · exact ((h3 y hy).below hb).grown hown hgrow
    · simp at hy
      subst hy
      exact (hT.below hb).grown hown hgrow
  · rcases hat with h5 | h5
    · rw [h5] at e1; exact hne e1
    · rw [h5] at e1
      simp at e1
      omega
  · have := hgrow.block k (by simp; omega) (fun e => hne e.symm)
    rw [this]
    exact hb.block k hk
  · have := hgrow.size
    simp at this
    omega
/-- What a call that makes hyperedges returns. -/
def RetEs (w : World) (P : List Pe) (e : Ending) (w' : World) : Prop := ∃ A n c L, e = .returned (.slice A n c) ∧ L.map Ed.pe = P ∧ L.length = n ∧ Reads w' w'.heap.size 5 A n (eds L) ∧ EdT w' L ∧ Below w.heap.size w w'
theorem ES.ret {w0 w w' : World} {v : Value} {P : List Pe} (h : ES w0 w v P) (hb : Below w'.heap.size w' w0) : RetEs w' P (.returned v) w := by
  obtain ⟨L, h1, h2, h3⟩ := h.ex
  obtain ⟨A, c, rfl, _, _⟩ := own_form h2
  exact ⟨A, _, c, L, rfl, h1, rfl, Reads.of_own h2, h3, hb.trans (h.bl.mono hb.size)⟩
/-- 'all = append(all, es...)'. -/
theorem wpList_push_eds {ops : Array Oper} {rest : List Oper} {o : Oper} {a : Act} {Q : Exit → Act → World → Prop} (hgd : o.guard = none) (s x : Operand)
    (ho : o.op = .call { callee := .builtin .append, args := #[s, x], argTypes := #[36, 36] })
    (v : Value) (hs : a.eval s = v) (w0 w : World) (P P2 : List Pe) (hES : ES w0 w v P) (A2 : Option Addr) (n2 c2 : Nat) (L2 : List Ed) (h2l : L2.map Ed.pe = P2) (h2n : L2.length = n2) (h2r : Reads w w.heap.size 5 A2 n2 (eds L2)) (h2t : EdT w L2) (hP : P.length ≤ 10000000) (hP2 : P2.length ≤ 10000000) (hx : a.eval x = .slice A2 n2 c2)
    (h : ∀ A n c w', ES w0 w' (.slice A n c) (P ++ P2) → wpList Tryd.prog ops Q rest (a.put o.dst (.slice A n c)) w') :
    wpList Tryd.prog ops Q (o :: rest) a w := by
  obtain ⟨i0, hi0, hz0, hz1, hz2⟩ := info_parts infoHe
  obtain ⟨L, h1, h2, h3⟩ := hES.ex
  have hl : L.length ≤ 10000000 := by rw [← h1, List.length_map] at hP; exact hP
  have hl2 : n2 ≤ 10000000 := by rw [← h2l, List.length_map] at hP2; omega
  refine wpList_append_any _ hgd s x 36 ho w0.heap.size 50 i0 (.agg #[.int .i64 0, .slice none 0 0, .int .i64 0, .int .i64 0, .int .i64 0]) 5 56 Tryd.underlying36 hi0 hz0 hz1 hz2 rfl (by decide) v L.length (eds L) hs h2
    w.heap.size A2 n2 c2 (eds L2) hx h2r (fun u hu => eds_one hu) (by unfold maxLen; omega) (by omega) hES.bl.size ?_
  intro v' w' hown' hgrow _
  obtain ⟨A, c, rfl, _, _⟩ := own_form hown'
  have hw : Below w0.heap.size w0 w' := hES.bl.grown hgrow hES.bl.size (fun k hk => own_lo h2 hk)
  refine h A _ c w' ⟨hw, L ++ L2, by rw [List.map_append, h1, h2l], ?_, fun y hy => ?_⟩
  · rw [List.length_append, eds_append, h2n]
    exact hown'
  · rcases List.mem_append.1 hy with hy | hy
    · exact (h3 y hy).grown h2 hgrow
    · exact (h2t y hy).grown h2 hgrow
end Go.Proofs.YthakcefgbggkcaaDoor
