/- Two entries exchanged, and their places in the map. -/
import Derived.Test.YtkeiakmfnammbaaKqQ
import Derived.Deep.DeepCutAuto
namespace Go.Proofs.Ytkeiakmfnammbaa
open Go.RowKit

theorem wpList_store_ent {ops : Array Oper} {rest : List Oper} {o : Oper} {a : Act} {Q : Exit → Act → World → Prop} {w : World} {g c : Nat} {l : List Ent} (hgd : o.guard = none) (p x : Operand) (hop : o.op = .store 79 p x)
    (O : OwnE w (some ⟨g, 0, none⟩) c l) (i : Nat) (hi : i < l.length) (e : Ent) (hp : a.eval p = .pointer (some ⟨g, i * 5, none⟩)) (hx : a.eval x = .agg #[.int .i64 e.node, .int .i64 e.cost, .int .i64 e.size, .int .i64 (e.h : Nat), .int .i64 (e.t : Nat)])
    (h : ∀ w', OwnE w' (some ⟨g, 0, none⟩) c (l.set i e) → Touch (fun k => k = g) w w' → wpList Try.prog ops Q rest (a.put o.dst undef) w') : wpList Try.prog ops Q (o :: rest) a w := by
  refine wpList_plain hgd fun K hK => ?_
  obtain ⟨x0, x1, x2, x3, x4⟩ := O.at_ (List.getElem?_eq_getElem hi)
  have f0 := O.frozen (i * 5)
  have f1 := O.frozen (i * 5 + 1)
  have f2 := O.frozen (i * 5 + 2)
  have f3 := O.frozen (i * 5 + 3)
  have f4 := O.frozen (i * 5 + 4)
  have hT : Touch (fun k => k = g) w (((((w.setCell ⟨g, i * 5, none⟩ (.int .i64 e.node)).setCell ⟨g, i * 5 + 1, none⟩ (.int .i64 e.cost)).setCell ⟨g, i * 5 + 2, none⟩ (.int .i64 e.size)).setCell ⟨g, i * 5 + 3, none⟩ (.int .i64 (e.h : Nat))).setCell ⟨g, i * 5 + 4, none⟩ (.int .i64 (e.t : Nat))) := ((((((Touch.refl (fun k => k = g) w).setCell (p := ⟨g, i * 5, none⟩) (.inl rfl) _).setCell (p := ⟨g, i * 5 + 1, none⟩) (.inl rfl) _).setCell (p := ⟨g, i * 5 + 2, none⟩) (.inl rfl) _).setCell (p := ⟨g, i * 5 + 3, none⟩) (.inl rfl) _).setCell (p := ⟨g, i * 5 + 4, none⟩) (.inl rfl) _)
  have h1 := h _ (O.put hi e) hT
  have h2 := hK _ _ h1
  clear h h1 hK
  unfold Oper.wp
  simp only [execOp, hop, hp, hx]
  go_simp
  exact h2

theorem keepT {w w' : World} {g q o : Nat} {v : Value} (h : w.cell? ⟨q, o, none⟩ = some v) (hne : g ≠ q) (T : Touch (fun k => k = g) w w') : w'.cell? ⟨q, o, none⟩ = some v :=
  (World.cell?_of_block (w := w) (a := ⟨q, o, none⟩) (T.block q (World.block_lt_of_cell? w _ h) (fun e => hne e.symm))).trans h
theorem drew_cell {w : World} {p : Addr} {v : Value} (h : w.cell? p = some v) : w.drew.cell? p = some v := h
theorem keepS {w : World} {g q o : Nat} {v : Value} (h : w.cell? ⟨q, o, none⟩ = some v) (hne : g ≠ q) {i : Nat} {e : Ent} : World.cell? (((((w.setCell ⟨g, i * 5, none⟩ (.int .i64 e.node)).setCell ⟨g, i * 5 + 1, none⟩ (.int .i64 e.cost)).setCell ⟨g, i * 5 + 2, none⟩ (.int .i64 e.size)).setCell ⟨g, i * 5 + 3, none⟩ (.int .i64 (e.h : Nat))).setCell ⟨g, i * 5 + 4, none⟩ (.int .i64 (e.t : Nat))) ⟨q, o, none⟩ = some v := by
  have T : Touch (fun k => k = g) w (((((w.setCell ⟨g, i * 5, none⟩ (.int .i64 e.node)).setCell ⟨g, i * 5 + 1, none⟩ (.int .i64 e.cost)).setCell ⟨g, i * 5 + 2, none⟩ (.int .i64 e.size)).setCell ⟨g, i * 5 + 3, none⟩ (.int .i64 (e.h : Nat))).setCell ⟨g, i * 5 + 4, none⟩ (.int .i64 (e.t : Nat))) := ((((((Touch.refl (fun k => k = g) w).setCell (p := ⟨g, i * 5, none⟩) (.inl rfl) _).setCell (p := ⟨g, i * 5 + 1, none⟩) (.inl rfl) _).setCell (p := ⟨g, i * 5 + 2, none⟩) (.inl rfl) _).setCell (p := ⟨g, i * 5 + 3, none⟩) (.inl rfl) _).setCell (p := ⟨g, i * 5 + 4, none⟩) (.inl rfl) _)
  exact keepT h hne T
theorem OwnE.drew {w : World} {A : Option Addr} {c : Nat} {l : List Ent} (h : OwnE w A c l) : OwnE w.drew A c l := h
theorem Touch.drew1 {F : Nat → Prop} {w w' : World} (h : Touch F w w') : Touch F w w'.drew := h.drewN 1
theorem put_touch (w : World) (g i : Nat) (e : Ent) : Touch (fun k => k = g) w (((((w.setCell ⟨g, i * 5, none⟩ (.int .i64 e.node)).setCell ⟨g, i * 5 + 1, none⟩ (.int .i64 e.cost)).setCell ⟨g, i * 5 + 2, none⟩ (.int .i64 e.size)).setCell ⟨g, i * 5 + 3, none⟩ (.int .i64 (e.h : Nat))).setCell ⟨g, i * 5 + 4, none⟩ (.int .i64 (e.t : Nat))) := ((((((Touch.refl (fun k => k = g) w).setCell (p := ⟨g, i * 5, none⟩) (.inl rfl) _).setCell (p := ⟨g, i * 5 + 1, none⟩) (.inl rfl) _).setCell (p := ⟨g, i * 5 + 2, none⟩) (.inl rfl) _).setCell (p := ⟨g, i * 5 + 3, none⟩) (.inl rfl) _).setCell (p := ⟨g, i * 5 + 4, none⟩) (.inl rfl) _)
theorem swap_row {w : World} {g c : Nat} {l : List Ent} {i j : Nat} {x y : Ent} (O : OwnE w (some ⟨g, 0, none⟩) c l) (hx : l[i]? = some x) (hy : l[j]? = some y) :
    OwnE (World.drew ((((((((((w.setCell ⟨g, i * 5, none⟩ (.int .i64 y.node)).setCell ⟨g, i * 5 + 1, none⟩ (.int .i64 y.cost)).setCell ⟨g, i * 5 + 2, none⟩ (.int .i64 y.size)).setCell ⟨g, i * 5 + 3, none⟩ (.int .i64 (y.h : Nat))).setCell ⟨g, i * 5 + 4, none⟩ (.int .i64 (y.t : Nat))).setCell ⟨g, j * 5, none⟩ (.int .i64 x.node)).setCell ⟨g, j * 5 + 1, none⟩ (.int .i64 x.cost)).setCell ⟨g, j * 5 + 2, none⟩ (.int .i64 x.size)).setCell ⟨g, j * 5 + 3, none⟩ (.int .i64 (x.h : Nat))).setCell ⟨g, j * 5 + 4, none⟩ (.int .i64 (x.t : Nat)))) (some ⟨g, 0, none⟩) c (swp l i j) ∧ Touch (fun k => k = g) w (World.drew ((((((((((w.setCell ⟨g, i * 5, none⟩ (.int .i64 y.node)).setCell ⟨g, i * 5 + 1, none⟩ (.int .i64 y.cost)).setCell ⟨g, i * 5 + 2, none⟩ (.int .i64 y.size)).setCell ⟨g, i * 5 + 3, none⟩ (.int .i64 (y.h : Nat))).setCell ⟨g, i * 5 + 4, none⟩ (.int .i64 (y.t : Nat))).setCell ⟨g, j * 5, none⟩ (.int .i64 x.node)).setCell ⟨g, j * 5 + 1, none⟩ (.int .i64 x.cost)).setCell ⟨g, j * 5 + 2, none⟩ (.int .i64 x.size)).setCell ⟨g, j * 5 + 3, none⟩ (.int .i64 (x.h : Nat))).setCell ⟨g, j * 5 + 4, none⟩ (.int .i64 (x.t : Nat)))) := by
  rw [swp_def hx hy]
  exact ⟨((O.put (List.getElem?_eq_some_iff.1 hx).1 y).put (i := j) (by rw [List.length_set]; exact (List.getElem?_eq_some_iff.1 hy).1) x).drew, ((put_touch w g i y).trans (put_touch _ g j x) (fun k h => .inl h)).drew1⟩
theorem turned_touch {w w' : World} {b : Nat} (h : w.mapTurned w' b) : Touch (fun k => k = b) w w' := by
  obtain ⟨h1, h2, h3, h4, h5⟩ := turned_block h
  exact ⟨h3, h4, h5, by omega, fun k _ hk => h1 k hk⟩
theorem Touch.undrew {F : Nat → Prop} {w w' : World} (h : Touch F w.drew w') : Touch F w w' := ⟨h.os, h.tape, h.output, h.size, h.block⟩
theorem swap_agree {l : List Ent} {f : Int → Option Nat} (h : Agree l f) {i j : Nat} {x y : Ent} (hx : l[i]? = some x) (hy : l[j]? = some y) : Agree (swp l i j) (fput (fput f (y.h : Int) i) (x.h : Int) j) := by
  have hil := (List.getElem?_eq_some_iff.1 hx).1
  have hjl := (List.getElem?_eq_some_iff.1 hy).1
  have fx := h.to i x hx
  have fy := h.to j y hy
  have at_ := swp_at hil hjl
  refine ⟨fun k e he => ?_, fun k m hk => ?_⟩
  · rw [at_] at he
    by_cases e1 : k = j
    · rw [if_pos e1, hx] at he
      injection he with he
      subst he e1
      simp [fput]
    · rw [if_neg e1] at he
      by_cases e2 : k = i
      · rw [if_pos e2, hy] at he
        injection he with he
        subst he e2
        have hne : (y.h : Int) ≠ (x.h : Int) := fun e => by rw [e, fx] at fy; injection fy with fy; exact e1 fy
        simp [fput, hne]
      · rw [if_neg e2] at he
        have fe := h.to k e he
        have n1 : (e.h : Int) ≠ (x.h : Int) := fun q => by rw [q, fx] at fe; injection fe with fe; exact e2 fe.symm
        have n2 : (e.h : Int) ≠ (y.h : Int) := fun q => by rw [q, fy] at fe; injection fe with fe; exact e1 fe.symm
        simp only [fput, if_neg n1, if_neg n2]
        exact fe
  · simp only [fput] at hk
    by_cases e1 : k = (x.h : Int)
    · rw [if_pos e1] at hk
      injection hk with hk
      subst hk
      exact ⟨x, by rw [at_, if_pos rfl, hx], e1.symm⟩
    · rw [if_neg e1] at hk
      by_cases e2 : k = (y.h : Int)
      · rw [if_pos e2] at hk
        injection hk with hk
        subst hk
        have hij : i ≠ j := fun q => by
          subst q
          rw [hx] at hy
          injection hy with hy
          subst hy
          exact e1 e2
        exact ⟨y, by rw [at_, if_neg hij, if_pos rfl, hy], e2.symm⟩
      · rw [if_neg e2] at hk
        obtain ⟨e, he, hek⟩ := h.fro k m hk
        refine ⟨e, ?_, hek⟩
        have n1 : m ≠ j := fun q => by rw [q, hy] at he; injection he with he; subst he; exact e2 hek.symm
        have n2 : m ≠ i := fun q => by rw [q, hx] at he; injection he with he; subst he; exact e1 hek.symm
        rw [at_, if_neg n1, if_neg n2, he]

abbrev ldE (p : Operand) : Op := .load 79 p
theorem ldE_eq (p : Operand) : Op.load 79 p = ldE p := rfl

set_option maxRecDepth 100000 in
set_option maxHeartbeats 2000000 in
theorem swap_any (w : World) (q g c b nx ck : Nat) (l : List Ent) (f : Int → Option Nat) (i j : Nat) (x y : Ent) (K : Blk w q 75 #[.func (.func 30) #[] #[], .slice (some ⟨g, 0, none⟩) l.length c, .map (some b), .int .i64 nx, .int .i64 ck])
    (O : OwnE w (some ⟨g, 0, none⟩) c l) (M : MapI w b nx f) (hA : Agree l f) (hx : l[i]? = some x) (hy : l[j]? = some y) (hn : nx ≤ 1000000000) (hll : l.length ≤ 1000000000) (hh : x.h ≤ 1000000000 ∧ y.h ≤ 1000000000) :
    Calls Try.prog 38 #[.pointer (some ⟨q, 0, none⟩), .int .i64 i, .int .i64 j] w fun e w' => ∃ v, e = .returned v ∧
      Blk w' q 75 #[.func (.func 30) #[] #[], .slice (some ⟨g, 0, none⟩) (swp l i j).length c, .map (some b), .int .i64 nx, .int .i64 ck] ∧ OwnE w' (some ⟨g, 0, none⟩) c (swp l i j) ∧
      MapI w' b nx (fput (fput f (y.h : Int) i) (x.h : Int) j) ∧ Touch (fun k => k = g ∨ k = b) w w' := by
  have hil := (List.getElem?_eq_some_iff.1 hx).1
  have hjl := (List.getElem?_eq_some_iff.1 hy).1
  have q1 := K.cell 1
  have q2 := K.cell 2
  simp at q1 q2
  obtain ⟨x0, x1, x2, x3, x4⟩ := O.at_ hx
  obtain ⟨y0, y1, y2, y3, y4⟩ := O.at_ hy
  have hqg : q ≠ g := by
    obtain ⟨g', cur, e, hg⟩ := O.form hil
    injection e with e
    injection e with e
    subst e
    exact Blk.ne_ K hg (by decide)
  have hgq : g ≠ q := fun e => hqg e.symm
  have hbq : b ≠ q := M.ne_blk K
  have hbg : b ≠ g := fun e => M.ne_own O (by rw [e]; rfl)
  have HM := Lib.hid M
  have HK := Lib.hid K
  have HO0 := Lib.hid O
  have HA := Lib.hid hA
  have HX := Lib.hid hx
  have HY := Lib.hid hy
  have fi0 := O.frozen (i * 5)
  have fi1 := O.frozen (i * 5 + 1)
  have fi2 := O.frozen (i * 5 + 2)
  have fi3 := O.frozen (i * 5 + 3)
  have fi4 := O.frozen (i * 5 + 4)
  have fj0 := O.frozen (j * 5)
  have fj1 := O.frozen (j * 5 + 1)
  have fj2 := O.frozen (j * 5 + 2)
  have fj3 := O.frozen (j * 5 + 3)
  have fj4 := O.frozen (j * 5 + 4)
  have hgl : g < w.heap.size := World.block_lt_of_cell? w _ x0
  clear M K O hA hx hy
  go_enter Try.func38, Try.ntmps38
  go_upto_region 0 with fail
  go_cut [] (fun wx => OwnE wx (some ⟨g, 0, none⟩) c (swp l i j) ∧ Touch (fun k => k = g) w wx)
  case first =>
    by_cases hij : i = j
    · subst hij
      obtain rfl : x = y := by have := HX.out.symm.trans HY.out; injection this
      have HK0 := Lib.hid (show w.drew.cell? ⟨q, 1, none⟩ = some (.slice (some ⟨g, 0, none⟩) l.length c) from q1)
      have HK1 := Lib.hid (show (World.drew (((((w.setCell ⟨g, i * 5, none⟩ (.int .i64 x.node)).setCell ⟨g, i * 5 + 1, none⟩ (.int .i64 x.cost)).setCell ⟨g, i * 5 + 2, none⟩ (.int .i64 x.size)).setCell ⟨g, i * 5 + 3, none⟩ (.int .i64 (x.h : Nat))).setCell ⟨g, i * 5 + 4, none⟩ (.int .i64 (x.t : Nat)))).cell? ⟨q, 1, none⟩ = some (.slice (some ⟨g, 0, none⟩) l.length c) from drew_cell (keepS (i := i) (e := x) q1 hgq))
      have HK2 := Lib.hid (show (World.drew ((((((((((w.setCell ⟨g, i * 5, none⟩ (.int .i64 x.node)).setCell ⟨g, i * 5 + 1, none⟩ (.int .i64 x.cost)).setCell ⟨g, i * 5 + 2, none⟩ (.int .i64 x.size)).setCell ⟨g, i * 5 + 3, none⟩ (.int .i64 (x.h : Nat))).setCell ⟨g, i * 5 + 4, none⟩ (.int .i64 (x.t : Nat))).setCell ⟨g, i * 5, none⟩ (.int .i64 x.node)).setCell ⟨g, i * 5 + 1, none⟩ (.int .i64 x.cost)).setCell ⟨g, i * 5 + 2, none⟩ (.int .i64 x.size)).setCell ⟨g, i * 5 + 3, none⟩ (.int .i64 (x.h : Nat))).setCell ⟨g, i * 5 + 4, none⟩ (.int .i64 (x.t : Nat)))).cell? ⟨q, 1, none⟩ = some (.slice (some ⟨g, 0, none⟩) l.length c) from drew_cell (keepS (i := i) (e := x) (keepS (i := i) (e := x) q1 hgq) hgq))
      clear y0 fj0 y1 fj1 y2 fj2 y3 fj3 y4 fj4
      simp only [ldE_eq]
      go_region_held3 (fun w' => w'.cell? ⟨q, 1, none⟩ = some (.slice (some ⟨g, 0, none⟩) l.length c))
        (first | with_reducible exact HK0.out | with_reducible exact HK1.out | with_reducible exact HK2.out) (fail)
      all_goals
        go_wp2_with fail
        go_meet
        exact swap_row HO0.out HX.out HX.out
    · have hji : ¬ j = i := fun e => hij e.symm
      have n1a : ¬ i * 5 + 1 = j * 5 := by omega
      have n1b : ¬ i * 5 = j * 5 + 1 := by omega
      have n1c : ¬ j * 5 + 1 = i * 5 := by omega
      have n1d : ¬ j * 5 = i * 5 + 1 := by omega
      have n2a : ¬ i * 5 + 2 = j * 5 := by omega
      have n2b : ¬ i * 5 = j * 5 + 2 := by omega
      have n2c : ¬ j * 5 + 2 = i * 5 := by omega
      have n2d : ¬ j * 5 = i * 5 + 2 := by omega
      have n3a : ¬ i * 5 + 3 = j * 5 := by omega
      have n3b : ¬ i * 5 = j * 5 + 3 := by omega
      have n3c : ¬ j * 5 + 3 = i * 5 := by omega
      have n3d : ¬ j * 5 = i * 5 + 3 := by omega
      have n4a : ¬ i * 5 + 4 = j * 5 := by omega
      have n4b : ¬ i * 5 = j * 5 + 4 := by omega
      have n4c : ¬ j * 5 + 4 = i * 5 := by omega
      have n4d : ¬ j * 5 = i * 5 + 4 := by omega
      have HK0 := Lib.hid (show w.drew.cell? ⟨q, 1, none⟩ = some (.slice (some ⟨g, 0, none⟩) l.length c) from q1)
      have HK1 := Lib.hid (show (World.drew (((((w.setCell ⟨g, i * 5, none⟩ (.int .i64 y.node)).setCell ⟨g, i * 5 + 1, none⟩ (.int .i64 y.cost)).setCell ⟨g, i * 5 + 2, none⟩ (.int .i64 y.size)).setCell ⟨g, i * 5 + 3, none⟩ (.int .i64 (y.h : Nat))).setCell ⟨g, i * 5 + 4, none⟩ (.int .i64 (y.t : Nat)))).cell? ⟨q, 1, none⟩ = some (.slice (some ⟨g, 0, none⟩) l.length c) from drew_cell (keepS (i := i) (e := y) q1 hgq))
      have HK2 := Lib.hid (show (World.drew ((((((((((w.setCell ⟨g, i * 5, none⟩ (.int .i64 y.node)).setCell ⟨g, i * 5 + 1, none⟩ (.int .i64 y.cost)).setCell ⟨g, i * 5 + 2, none⟩ (.int .i64 y.size)).setCell ⟨g, i * 5 + 3, none⟩ (.int .i64 (y.h : Nat))).setCell ⟨g, i * 5 + 4, none⟩ (.int .i64 (y.t : Nat))).setCell ⟨g, j * 5, none⟩ (.int .i64 x.node)).setCell ⟨g, j * 5 + 1, none⟩ (.int .i64 x.cost)).setCell ⟨g, j * 5 + 2, none⟩ (.int .i64 x.size)).setCell ⟨g, j * 5 + 3, none⟩ (.int .i64 (x.h : Nat))).setCell ⟨g, j * 5 + 4, none⟩ (.int .i64 (x.t : Nat)))).cell? ⟨q, 1, none⟩ = some (.slice (some ⟨g, 0, none⟩) l.length c) from drew_cell (keepS (i := j) (e := x) (keepS (i := i) (e := y) q1 hgq) hgq))
      simp only [ldE_eq]
      go_region_held3 (fun w' => w'.cell? ⟨q, 1, none⟩ = some (.slice (some ⟨g, 0, none⟩) l.length c))
        (first | with_reducible exact HK0.out | with_reducible exact HK1.out | with_reducible exact HK2.out) (fail)
      all_goals
        go_wp2_with fail
        go_meet
        exact swap_row HO0.out HX.out HY.out
  case rest =>
    obtain ⟨O1, T1⟩ := hcut
    rename World => w1
    clear x0 x1 x2 x3 x4 y0 y1 y2 y3 y4 q1 q2
    have K1 := HK.out.touch T1 hqg
    have M1 := HM.out.keep (T1.block b HM.out.lt hbg)
    have at_ := swp_at hil hjl
    have hlj : (swp l i j)[j]? = some x := by rw [at_, if_pos rfl, HX.out]
    have hli : (swp l i j)[i]? = some y := by
      rw [at_]
      split
      · rename_i e; rw [e]; exact HY.out
      · rw [if_pos rfl, HY.out]
    obtain ⟨x0, x1, x2, x3, x4⟩ := O1.at_ hlj
    obtain ⟨y0, y1, y2, y3, y4⟩ := O1.at_ hli
    clear x0 x1 x2 x4 y0 y1 y2 y4 at_ hlj hli
    have fx := HA.out.to i x HX.out
    have fy := HA.out.to j y HY.out
    have hwx := wfN (n := x.h) (by omega)
    have hwy := wfN (n := y.h) (by omega)
    obtain ⟨v1, s1, hr1, hs1⟩ := (M1.drew).entry hwy (by rw [fy]; rfl) (by unfold maxLen; omega)
    obtain ⟨w4, hr2, M4, T4⟩ := hs1 w1.drew i rfl (by omega)
    obtain ⟨v2, s2, hr3, hs2⟩ := M4.entry hwx (by simp only [fput]; split; rfl; rw [fx]; rfl) (by unfold maxLen; omega)
    obtain ⟨w5, hr4, M5, T5⟩ := hs2 w4 j rfl (by omega)
    have k1 := K1.cell 1
    have k2 := K1.cell 2
    simp at k1 k2
    have h9 : ∀ w9 : World, (∀ p, p ≠ b → w9.heap[p]? = w1.heap[p]?) → w9.cell? ⟨q, 1, none⟩ = some (.slice (some ⟨g, 0, none⟩) l.length c) ∧ w9.cell? ⟨q, 2, none⟩ = some (.map (some b)) ∧ w9.cell? ⟨g, i * 5 + 3, none⟩ = some (.int .i64 (y.h : Nat)) ∧ w9.cell? ⟨g, j * 5 + 3, none⟩ = some (.int .i64 (x.h : Nat)) := fun w9 h =>
      ⟨(World.cell?_of_block (w := w1) (a := ⟨q, 1, none⟩) (h q (fun e => hbq e.symm))).trans k1, (World.cell?_of_block (w := w1) (a := ⟨q, 2, none⟩) (h q (fun e => hbq e.symm))).trans k2,
        (World.cell?_of_block (w := w1) (h g (fun e => hbg e.symm))).trans y3, (World.cell?_of_block (w := w1) (h g (fun e => hbg e.symm))).trans x3⟩
    have H9 := Lib.hid h9
    clear h9 hs1 hs2
    go_upto_region 1 with fail
    go_region_held3 (fun w' => w'.cell? ⟨q, 1, none⟩ = some (.slice (some ⟨g, 0, none⟩) l.length c) ∧ w'.cell? ⟨q, 2, none⟩ = some (.map (some b)) ∧ w'.cell? ⟨g, i * 5 + 3, none⟩ = some (.int .i64 (y.h : Nat)) ∧ w'.cell? ⟨g, j * 5 + 3, none⟩ = some (.int .i64 (x.h : Nat)))
      (first | exact H9.out _ (fun _ _ => rfl) | exact H9.out _ (turned_block T4).1 | exact H9.out _ (fun p hp => ((turned_block T5).1 p hp).trans ((turned_block T4).1 p hp))) (fail)
    go_wp2_with fail
    go_end0
    have T4' : Touch (fun k => k = b) w1 w4 := (turned_touch T4).undrew
    have T5' := turned_touch T5
    rw [swp_length]
    refine ⟨_, rfl, K1.touch (T4'.trans T5' (fun k h => .inl h)) (fun (e : q = b) => hbq e.symm), own_touch (own_touch O1 T4' ?_) T5' ?_, M5, ?_⟩
    · intro k hk hb
      simp [Value.ownBlock] at hk
      exact hbg (by omega)
    · intro k hk hb
      simp [Value.ownBlock] at hk
      exact hbg (by omega)
    · exact ((T1.mono (fun k h => .inl h)).trans (T4'.mono (fun k h => .inr h)) (fun k h => .inl h)).trans (T5'.mono (fun k h => .inr h)) (fun k h => .inl h)
end Go.Proofs.Ytkeiakmfnammbaa
