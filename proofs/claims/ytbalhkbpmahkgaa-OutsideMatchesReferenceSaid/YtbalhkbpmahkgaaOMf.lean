/- The queue of the outside costs. -/
import Derived.Test.YtbalhkbpmahkgaaOMa
import Derived.Deep.DeepCutAuto
import Derived.Deep.CutBlock
import Derived.StillTailTactics
namespace Go.Proofs.Ytbalhkbpmahkgaa.Oq
open Go.RowKit

set_option maxRecDepth 100000 in
set_option maxHeartbeats 2000000 in
theorem before_any (w : World) (q g c nx ck : Nat) (mv : Value) (l : List Ent) (i j : Nat) (x y : Ent) (K : Blk w q 75 #[.func (.func 41) #[] #[], .slice (some ⟨g, 0, none⟩) l.length c, mv, .int .i64 nx, .int .i64 ck])
    (O : OwnE w (some ⟨g, 0, none⟩) c l) (hx : l[i]? = some x) (hy : l[j]? = some y) :
    Calls Try.prog 55 #[.pointer (some ⟨q, 0, none⟩), .int .i64 i, .int .i64 j] w fun e w' => e = .returned (.bool (bf x y)) ∧ Below w.heap.size w w' := by
  have hil := (List.getElem?_eq_some_iff.1 hx).1
  have hjl := (List.getElem?_eq_some_iff.1 hy).1
  have q1 := K.cell 1
  simp at q1
  have hql := K.lt
  obtain ⟨x0, x1, x2, x3⟩ := O.at_ hx
  obtain ⟨y0, y1, y2, y3⟩ := O.at_ hy
  have hgl : g < w.heap.size := World.block_lt_of_cell? w _ x0
  have K0 := Lib.hid K
  obtain ⟨r, hr⟩ : ∃ r, r = bf x y := ⟨_, rfl⟩
  rw [← hr]
  have HR := Lib.hid hr
  clear O hx hy hr
  go_enter Try.func55, Try.ntmps55
  go_upto_region 1 with fail
  go_cut [7, 8] (fun a7 a8 wx => ∃ g7 g8 : Nat, a7 = .pointer (some ⟨g7, 0, none⟩) ∧ a8 = .pointer (some ⟨g8, 0, none⟩) ∧ Blk wx g7 77 #[.int .i64 x.cost, .int .i64 x.node, .int .i64 (x.h : Nat), .int .i64 (x.t : Nat)] ∧ Blk wx g8 77 #[.int .i64 y.cost, .int .i64 y.node, .int .i64 (y.h : Nat), .int .i64 (y.t : Nat)] ∧ Below w.heap.size w wx)
  case first =>
    have h9 : ∀ w9, Below w.heap.size w w9 → w9.cell? ⟨q, 1, none⟩ = some (.slice (some ⟨g, 0, none⟩) l.length c) ∧ w9.cell? ⟨g, i * 4, none⟩ = some (.int .i64 x.cost) ∧ w9.cell? ⟨g, i * 4 + 1, none⟩ = some (.int .i64 x.node) ∧ w9.cell? ⟨g, i * 4 + 2, none⟩ = some (.int .i64 (x.h : Nat)) ∧ w9.cell? ⟨g, i * 4 + 3, none⟩ = some (.int .i64 (x.t : Nat)) ∧ w9.cell? ⟨g, j * 4, none⟩ = some (.int .i64 y.cost) ∧ w9.cell? ⟨g, j * 4 + 1, none⟩ = some (.int .i64 y.node) ∧ w9.cell? ⟨g, j * 4 + 2, none⟩ = some (.int .i64 (y.h : Nat)) ∧ w9.cell? ⟨g, j * 4 + 3, none⟩ = some (.int .i64 (y.t : Nat)) ∧ Below w.heap.size w w9 := fun w9 h => ⟨((bcell h).1 _ _ hql).trans q1, ((bcell h).1 _ _ hgl).trans x0, ((bcell h).1 _ _ hgl).trans x1, ((bcell h).1 _ _ hgl).trans x2, ((bcell h).1 _ _ hgl).trans x3, ((bcell h).1 _ _ hgl).trans y0, ((bcell h).1 _ _ hgl).trans y1, ((bcell h).1 _ _ hgl).trans y2, ((bcell h).1 _ _ hgl).trans y3, h⟩
    have H9 := Lib.hid h9
    clear h9
    go_region_held3 (fun w' => w'.cell? ⟨q, 1, none⟩ = some (.slice (some ⟨g, 0, none⟩) l.length c) ∧ w'.cell? ⟨g, i * 4, none⟩ = some (.int .i64 x.cost) ∧ w'.cell? ⟨g, i * 4 + 1, none⟩ = some (.int .i64 x.node) ∧ w'.cell? ⟨g, i * 4 + 2, none⟩ = some (.int .i64 (x.h : Nat)) ∧ w'.cell? ⟨g, i * 4 + 3, none⟩ = some (.int .i64 (x.t : Nat)) ∧ w'.cell? ⟨g, j * 4, none⟩ = some (.int .i64 y.cost) ∧ w'.cell? ⟨g, j * 4 + 1, none⟩ = some (.int .i64 y.node) ∧ w'.cell? ⟨g, j * 4 + 2, none⟩ = some (.int .i64 (y.h : Nat)) ∧ w'.cell? ⟨g, j * 4 + 3, none⟩ = some (.int .i64 (y.t : Nat)) ∧ Below w.heap.size w w')
      ((refine H9.out _ ?_; repeat (first | exact Below.refl _ _ | refine Below.drew ?_ | refine Below.alloc ?_ (by simp) _ | refine Below.setCell ?_ (by simp) _))) (fail)
    all_goals
      go_wp2_with fail
      go_meet
      first
        | exact ⟨_, _, rfl, rfl, (Blk.new' w _ _ rfl).alloc _, Blk.new' (w.alloc _) _ _ (by simp), (((Below.refl _ _).alloc (Nat.le_refl _) _).alloc (by simp) _).drew⟩
        | exact ⟨_, _, rfl, rfl, Blk.new' (w.alloc _) _ _ (by simp), (Blk.new' w _ _ rfl).alloc _, (((Below.refl _ _).alloc (Nat.le_refl _) _).alloc (by simp) _).drew⟩
  case rest =>
    obtain ⟨g7, g8, rfl, rfl, K7, K8, hb⟩ := hcut
    rename World => w1
    have K1 := K0.out.below hb hql
    clear x0 x1 x2 x3 y0 y1 y2 y3 q1
    obtain ⟨a0, a1, xh, xt⟩ := x
    obtain ⟨b0, b1, yh, yt⟩ := y
    have q0 := ext_cell (K1.cell 0)
    have f0 := ext_cell (K7.cell 0)
    have f1 := ext_cell (K7.cell 1)
    have f2 := ext_cell (K7.cell 2)
    have f3 := ext_cell (K7.cell 3)
    have e0 := ext_cell (K8.cell 0)
    have e1 := ext_cell (K8.cell 1)
    have e2 := ext_cell (K8.cell 2)
    have e3 := ext_cell (K8.cell 3)
    clear K7 K8 K1 K0 K
    have L1 := fun w => less_any ⟨a0, a1, xh, xt⟩ ⟨b0, b1, yh, yt⟩ w
    have L2 := fun w => less_any ⟨b0, b1, yh, yt⟩ ⟨a0, a1, xh, xt⟩ w
    have HL1 := Lib.hid L1
    have HL2 := Lib.hid L2
    clear L1 L2
    cases h1 : lt ⟨a0, a1, xh, xt⟩ ⟨b0, b1, yh, yt⟩ with
    | true =>
      rw [h1] at HL1
      go_wp2_with fail
      refine wp_region_ext (by kernel_rfl) (by kernel_rfl) ?_
      repeat (go_big_quiet_step (exact calls_ext (HL1.out _)))
      refine wpQuiet_nil ?_
      rintro _ ⟨u, rfl⟩
      go_wp2_with fail
      go_ret
      exact ⟨ret_bool (by rw [HR.out]; simp [bf, h1]), hb.trans (u.h.mono hb.size)⟩
    | false =>
      rw [h1] at HL1
      go_wp2_with fail
      refine wp_region_ext (by kernel_rfl) (by kernel_rfl) ?_
      repeat (go_big_quiet_step (exact calls_ext (HL1.out _)))
      refine wpQuiet_nil ?_
      rintro _ ⟨u, rfl⟩
      have hbu := hb.trans (u.h.mono hb.size)
      have q0' := ext_cell (q0 u)
      have f0' := ext_cell (f0 u)
      have f1' := ext_cell (f1 u)
      have f2' := ext_cell (f2 u)
      have f3' := ext_cell (f3 u)
      have e0' := ext_cell (e0 u)
      have e1' := ext_cell (e1 u)
      have e2' := ext_cell (e2 u)
      have e3' := ext_cell (e3 u)
      obtain ⟨w2, hw2⟩ : ∃ w2, u.W = w2 := ⟨_, rfl⟩
      clear q0 f0 e0 f1 e1 f2 e2 f3 e3
      cases h2 : lt ⟨b0, b1, yh, yt⟩ ⟨a0, a1, xh, xt⟩ with
      | true =>
        rw [h2] at HL2
        go_wp2_with fail
        refine wp_region_ext (by kernel_rfl) (by kernel_rfl) ?_
        repeat (go_big_quiet_step (exact calls_ext (HL2.out _)))
        refine wpQuiet_nil ?_
        rintro _ ⟨u2, rfl⟩
        go_wp2_with fail
        go_ret
        exact ⟨ret_bool (by rw [HR.out]; simp [bf, h1, h2]), hbu.trans (u2.h.mono hbu.size)⟩
      | false =>
        rw [h2] at HL2
        go_wp2_with fail
        refine wp_region_ext (by kernel_rfl) (by kernel_rfl) ?_
        repeat (go_big_quiet_step (exact calls_ext (HL2.out _)))
        refine wpQuiet_nil ?_
        rintro _ ⟨u2, rfl⟩
        go_wp2_with fail
        go_ret
        exact ⟨ret_bool (by rw [HR.out]; simp [bf, h1, h2]), hbu.trans (u2.h.mono hbu.size)⟩
end Go.Proofs.Ytbalhkbpmahkgaa.Oq

namespace Go.Proofs.Ytbalhkbpmahkgaa.Oq
open Go.RowKit

theorem wpList_store_ent {ops : Array Oper} {rest : List Oper} {o : Oper} {a : Act} {Q : Exit → Act → World → Prop} {w : World} {g c : Nat} {l : List Ent} (hgd : o.guard = none) (p x : Operand) (hop : o.op = .store 77 p x)
    (O : OwnE w (some ⟨g, 0, none⟩) c l) (i : Nat) (hi : i < l.length) (e : Ent) (hp : a.eval p = .pointer (some ⟨g, i * 4, none⟩)) (hx : a.eval x = .agg #[.int .i64 e.cost, .int .i64 e.node, .int .i64 (e.h : Nat), .int .i64 (e.t : Nat)])
    (h : ∀ w', OwnE w' (some ⟨g, 0, none⟩) c (l.set i e) → Touch (fun k => k = g) w w' → wpList Try.prog ops Q rest (a.put o.dst undef) w') : wpList Try.prog ops Q (o :: rest) a w := by
  refine wpList_plain hgd fun K hK => ?_
  obtain ⟨x0, x1, x2, x3⟩ := O.at_ (List.getElem?_eq_getElem hi)
  have f0 := O.frozen (i * 4)
  have f1 := O.frozen (i * 4 + 1)
  have f2 := O.frozen (i * 4 + 2)
  have f3 := O.frozen (i * 4 + 3)
  have hT : Touch (fun k => k = g) w ((((w.setCell ⟨g, i * 4, none⟩ (.int .i64 e.cost)).setCell ⟨g, i * 4 + 1, none⟩ (.int .i64 e.node)).setCell ⟨g, i * 4 + 2, none⟩ (.int .i64 (e.h : Nat))).setCell ⟨g, i * 4 + 3, none⟩ (.int .i64 (e.t : Nat))) := (((((Touch.refl (fun k => k = g) w).setCell (p := ⟨g, i * 4, none⟩) (.inl rfl) _).setCell (p := ⟨g, i * 4 + 1, none⟩) (.inl rfl) _).setCell (p := ⟨g, i * 4 + 2, none⟩) (.inl rfl) _).setCell (p := ⟨g, i * 4 + 3, none⟩) (.inl rfl) _)
  have h1 := h _ (O.put hi e) hT
  have h2 := hK _ _ h1
  clear h h1 hK
  unfold Oper.wp
  simp only [execOp, hop, hp, hx]
  go_simp
  exact h2

theorem keepT {w w' : World} {g q o : Nat} {v : Value} (h : w.cell? ⟨q, o, none⟩ = some v) (hne : g ≠ q) (T : Touch (fun k => k = g) w w') : w'.cell? ⟨q, o, none⟩ = some v :=
  (World.cell?_of_block (w := w) (a := ⟨q, o, none⟩) (T.block q (World.block_lt_of_cell? w _ h) (fun e => hne e.symm))).trans h
theorem drew_cell {w : World} {p : Addr} {v : Value} (h : w.cell? p = some v) : w.drew.cell? p = some v := h
theorem keepS {w : World} {g q o : Nat} {v : Value} (h : w.cell? ⟨q, o, none⟩ = some v) (hne : g ≠ q) {i : Nat} {e : Ent} : World.cell? ((((w.setCell ⟨g, i * 4, none⟩ (.int .i64 e.cost)).setCell ⟨g, i * 4 + 1, none⟩ (.int .i64 e.node)).setCell ⟨g, i * 4 + 2, none⟩ (.int .i64 (e.h : Nat))).setCell ⟨g, i * 4 + 3, none⟩ (.int .i64 (e.t : Nat))) ⟨q, o, none⟩ = some v := by
  have T : Touch (fun k => k = g) w ((((w.setCell ⟨g, i * 4, none⟩ (.int .i64 e.cost)).setCell ⟨g, i * 4 + 1, none⟩ (.int .i64 e.node)).setCell ⟨g, i * 4 + 2, none⟩ (.int .i64 (e.h : Nat))).setCell ⟨g, i * 4 + 3, none⟩ (.int .i64 (e.t : Nat))) := (((((Touch.refl (fun k => k = g) w).setCell (p := ⟨g, i * 4, none⟩) (.inl rfl) _).setCell (p := ⟨g, i * 4 + 1, none⟩) (.inl rfl) _).setCell (p := ⟨g, i * 4 + 2, none⟩) (.inl rfl) _).setCell (p := ⟨g, i * 4 + 3, none⟩) (.inl rfl) _)
  exact keepT h hne T
theorem OwnE.drew {w : World} {A : Option Addr} {c : Nat} {l : List Ent} (h : OwnE w A c l) : OwnE w.drew A c l := h
theorem _root_.Go.Proofs.Ytbalhkbpmahkgaa.Touch.odrew1 {F : Nat → Prop} {w w' : World} (h : Touch F w w') : Touch F w w'.drew := h.drewN 1
theorem put_touch (w : World) (g i : Nat) (e : Ent) : Touch (fun k => k = g) w ((((w.setCell ⟨g, i * 4, none⟩ (.int .i64 e.cost)).setCell ⟨g, i * 4 + 1, none⟩ (.int .i64 e.node)).setCell ⟨g, i * 4 + 2, none⟩ (.int .i64 (e.h : Nat))).setCell ⟨g, i * 4 + 3, none⟩ (.int .i64 (e.t : Nat))) := (((((Touch.refl (fun k => k = g) w).setCell (p := ⟨g, i * 4, none⟩) (.inl rfl) _).setCell (p := ⟨g, i * 4 + 1, none⟩) (.inl rfl) _).setCell (p := ⟨g, i * 4 + 2, none⟩) (.inl rfl) _).setCell (p := ⟨g, i * 4 + 3, none⟩) (.inl rfl) _)
theorem swap_row {w : World} {g c : Nat} {l : List Ent} {i j : Nat} {x y : Ent} (O : OwnE w (some ⟨g, 0, none⟩) c l) (hx : l[i]? = some x) (hy : l[j]? = some y) :
    OwnE (World.drew ((((((((w.setCell ⟨g, i * 4, none⟩ (.int .i64 y.cost)).setCell ⟨g, i * 4 + 1, none⟩ (.int .i64 y.node)).setCell ⟨g, i * 4 + 2, none⟩ (.int .i64 (y.h : Nat))).setCell ⟨g, i * 4 + 3, none⟩ (.int .i64 (y.t : Nat))).setCell ⟨g, j * 4, none⟩ (.int .i64 x.cost)).setCell ⟨g, j * 4 + 1, none⟩ (.int .i64 x.node)).setCell ⟨g, j * 4 + 2, none⟩ (.int .i64 (x.h : Nat))).setCell ⟨g, j * 4 + 3, none⟩ (.int .i64 (x.t : Nat)))) (some ⟨g, 0, none⟩) c (swp l i j) ∧ Touch (fun k => k = g) w (World.drew ((((((((w.setCell ⟨g, i * 4, none⟩ (.int .i64 y.cost)).setCell ⟨g, i * 4 + 1, none⟩ (.int .i64 y.node)).setCell ⟨g, i * 4 + 2, none⟩ (.int .i64 (y.h : Nat))).setCell ⟨g, i * 4 + 3, none⟩ (.int .i64 (y.t : Nat))).setCell ⟨g, j * 4, none⟩ (.int .i64 x.cost)).setCell ⟨g, j * 4 + 1, none⟩ (.int .i64 x.node)).setCell ⟨g, j * 4 + 2, none⟩ (.int .i64 (x.h : Nat))).setCell ⟨g, j * 4 + 3, none⟩ (.int .i64 (x.t : Nat)))) := by
  rw [swp_def hx hy]
  exact ⟨((O.put (List.getElem?_eq_some_iff.1 hx).1 y).put (i := j) (by rw [List.length_set]; exact (List.getElem?_eq_some_iff.1 hy).1) x).drew, ((put_touch w g i y).trans (put_touch _ g j x) (fun k h => .inl h)).odrew1⟩
theorem turned_touch {w w' : World} {b : Nat} (h : w.mapTurned w' b) : Touch (fun k => k = b) w w' := by
  obtain ⟨h1, h2, h3, h4, h5⟩ := turned_block h
  exact ⟨h3, h4, h5, by omega, fun k _ hk => h1 k hk⟩
theorem _root_.Go.Proofs.Ytbalhkbpmahkgaa.Touch.oundrew {F : Nat → Prop} {w w' : World} (h : Touch F w.drew w') : Touch F w w' := ⟨h.os, h.tape, h.output, h.size, h.block⟩
theorem swap_agree {l : List Ent} {f : Int → Option Nat} (h : Agree l f) {i j : Nat} {x y : Ent} (hx : l[i]? = some x) (hy : l[j]? = some y) : Agree (swp l i j) (fput (fput f (y.h : Int) i) (x.h : Int) j) := by
  have hil := (List.getElem?_eq_some_iff.1 hx).1
  have hjl := (List.getElem?_eq_some_iff.1 hy).1
  have fx := h.to i x hx
  have fy := h.to j y hy
  have at_ := swp_at hil hjl
  refine ⟨fun k e he => ?_, fun k m hk => ?_⟩
  · rw [at_] at he
    by_cases e1 : k = j
    · rw [if_pos e1, hx] at he
      injection he with he
      subst he e1
      simp [fput]
    · rw [if_neg e1] at he
      by_cases e2 : k = i
      · rw [if_pos e2, hy] at he
        injection he with he
        subst he e2
        have hne : (y.h : Int) ≠ (x.h : Int) := fun e => by rw [e, fx] at fy; injection fy with fy; exact e1 fy
        simp [fput, hne]
      · rw [if_neg e2] at he
        have fe := h.to k e he
        have n1 : (e.h : Int) ≠ (x.h : Int) := fun q => by rw [q, fx] at fe; injection fe with fe; exact e2 fe.symm
        have n2 : (e.h : Int) ≠ (y.h : Int) := fun q => by rw [q, fy] at fe; injection fe with fe; exact e1 fe.symm
        simp only [fput, if_neg n1, if_neg n2]
        exact fe
  · simp only [fput] at hk
    by_cases e1 : k = (x.h : Int)
    · rw [if_pos e1] at hk
      injection hk with hk
      subst hk
      exact ⟨x, by rw [at_, if_pos rfl, hx], e1.symm⟩
    · rw [if_neg e1] at hk
      by_cases e2 : k = (y.h : Int)
      · rw [if_pos e2] at hk
        injection hk with hk
        subst hk
        have hij : i ≠ j := fun q => by
          subst q
          rw [hx] at hy
          injection hy with hy
          subst hy
          exact e1 e2
        exact ⟨y, by rw [at_, if_neg hij, if_pos rfl, hy], e2.symm⟩
      · rw [if_neg e2] at hk
        obtain ⟨e, he, hek⟩ := h.fro k m hk
        refine ⟨e, ?_, hek⟩
        have n1 : m ≠ j := fun q => by rw [q, hy] at he; injection he with he; subst he; exact e2 hek.symm
        have n2 : m ≠ i := fun q => by rw [q, hx] at he; injection he with he; subst he; exact e1 hek.symm
        rw [at_, if_neg n1, if_neg n2, he]

abbrev ldE (p : Operand) : Op := .load 77 p
theorem ldE_eq (p : Operand) : Op.load 77 p = ldE p := rfl

set_option maxRecDepth 100000 in
set_option maxHeartbeats 2000000 in
theorem swap_any (w : World) (q g c b nx ck : Nat) (l : List Ent) (f : Int → Option Nat) (i j : Nat) (x y : Ent) (K : Blk w q 75 #[.func (.func 41) #[] #[], .slice (some ⟨g, 0, none⟩) l.length c, .map (some b), .int .i64 nx, .int .i64 ck])
    (O : OwnE w (some ⟨g, 0, none⟩) c l) (M : MapI w b nx f) (hA : Agree l f) (hx : l[i]? = some x) (hy : l[j]? = some y) (hn : nx ≤ 1000000000) (hll : l.length ≤ 1000000000) (hh : x.h ≤ 1000000000 ∧ y.h ≤ 1000000000) :
    Calls Try.prog 46 #[.pointer (some ⟨q, 0, none⟩), .int .i64 i, .int .i64 j] w fun e w' => ∃ v, e = .returned v ∧
      Blk w' q 75 #[.func (.func 41) #[] #[], .slice (some ⟨g, 0, none⟩) (swp l i j).length c, .map (some b), .int .i64 nx, .int .i64 ck] ∧ OwnE w' (some ⟨g, 0, none⟩) c (swp l i j) ∧
      MapI w' b nx (fput (fput f (y.h : Int) i) (x.h : Int) j) ∧ Touch (fun k => k = g ∨ k = b) w w' := by
  have hil := (List.getElem?_eq_some_iff.1 hx).1
  have hjl := (List.getElem?_eq_some_iff.1 hy).1
  have q1 := K.cell 1
  have q2 := K.cell 2
  simp at q1 q2
  obtain ⟨x0, x1, x2, x3⟩ := O.at_ hx
  obtain ⟨y0, y1, y2, y3⟩ := O.at_ hy
  have hqg : q ≠ g := by
    obtain ⟨g', cur, e, hg⟩ := O.form hil
    injection e with e
    injection e with e
    subst e
    exact Blk.ne_ K hg (by decide)
  have hgq : g ≠ q := fun e => hqg e.symm
  have hbq : b ≠ q := M.ne_blk K
  have hbg : b ≠ g := fun e => M.ne_own O (by rw [e]; rfl)
  have HM := Lib.hid M
  have HK := Lib.hid K
  have HO0 := Lib.hid O
  have HA := Lib.hid hA
  have HX := Lib.hid hx
  have HY := Lib.hid hy
  have fi0 := O.frozen (i * 4)
  have fi1 := O.frozen (i * 4 + 1)
  have fi2 := O.frozen (i * 4 + 2)
  have fi3 := O.frozen (i * 4 + 3)
  have fj0 := O.frozen (j * 4)
  have fj1 := O.frozen (j * 4 + 1)
  have fj2 := O.frozen (j * 4 + 2)
  have fj3 := O.frozen (j * 4 + 3)
  have hgl : g < w.heap.size := World.block_lt_of_cell? w _ x0
  clear M K O hA hx hy
  go_enter Try.func46, Try.ntmps46
  go_upto_region 0 with fail
  go_cut [] (fun wx => OwnE wx (some ⟨g, 0, none⟩) c (swp l i j) ∧ Touch (fun k => k = g) w wx)
  case first =>
    by_cases hij : i = j
    · subst hij
      obtain rfl : x = y := by have := HX.out.symm.trans HY.out; injection this
      have HK0 := Lib.hid (show w.drew.cell? ⟨q, 1, none⟩ = some (.slice (some ⟨g, 0, none⟩) l.length c) from q1)
      have HK1 := Lib.hid (show (World.drew ((((w.setCell ⟨g, i * 4, none⟩ (.int .i64 x.cost)).setCell ⟨g, i * 4 + 1, none⟩ (.int .i64 x.node)).setCell ⟨g, i * 4 + 2, none⟩ (.int .i64 (x.h : Nat))).setCell ⟨g, i * 4 + 3, none⟩ (.int .i64 (x.t : Nat)))).cell? ⟨q, 1, none⟩ = some (.slice (some ⟨g, 0, none⟩) l.length c) from drew_cell (keepS (i := i) (e := x) q1 hgq))
      have HK2 := Lib.hid (show (World.drew ((((((((w.setCell ⟨g, i * 4, none⟩ (.int .i64 x.cost)).setCell ⟨g, i * 4 + 1, none⟩ (.int .i64 x.node)).setCell ⟨g, i * 4 + 2, none⟩ (.int .i64 (x.h : Nat))).setCell ⟨g, i * 4 + 3, none⟩ (.int .i64 (x.t : Nat))).setCell ⟨g, i * 4, none⟩ (.int .i64 x.cost)).setCell ⟨g, i * 4 + 1, none⟩ (.int .i64 x.node)).setCell ⟨g, i * 4 + 2, none⟩ (.int .i64 (x.h : Nat))).setCell ⟨g, i * 4 + 3, none⟩ (.int .i64 (x.t : Nat)))).cell? ⟨q, 1, none⟩ = some (.slice (some ⟨g, 0, none⟩) l.length c) from drew_cell (keepS (i := i) (e := x) (keepS (i := i) (e := x) q1 hgq) hgq))
      clear y0 fj0 y1 fj1 y2 fj2 y3 fj3
      simp only [ldE_eq]
      go_region_held3 (fun w' => w'.cell? ⟨q, 1, none⟩ = some (.slice (some ⟨g, 0, none⟩) l.length c))
        (first | with_reducible exact HK0.out | with_reducible exact HK1.out | with_reducible exact HK2.out) (fail)
      all_goals
        go_wp2_with fail
        go_meet
        exact swap_row HO0.out HX.out HX.out
    · have hji : ¬ j = i := fun e => hij e.symm
      have n1a : ¬ i * 4 + 1 = j * 4 := by omega
      have n1b : ¬ i * 4 = j * 4 + 1 := by omega
      have n1c : ¬ j * 4 + 1 = i * 4 := by omega
      have n1d : ¬ j * 4 = i * 4 + 1 := by omega
      have n2a : ¬ i * 4 + 2 = j * 4 := by omega
      have n2b : ¬ i * 4 = j * 4 + 2 := by omega
      have n2c : ¬ j * 4 + 2 = i * 4 := by omega
      have n2d : ¬ j * 4 = i * 4 + 2 := by omega
      have n3a : ¬ i * 4 + 3 = j * 4 := by omega
      have n3b : ¬ i * 4 = j * 4 + 3 := by omega
      have n3c : ¬ j * 4 + 3 = i * 4 := by omega
      have n3d : ¬ j * 4 = i * 4 + 3 := by omega
      have HK0 := Lib.hid (show w.drew.cell? ⟨q, 1, none⟩ = some (.slice (some ⟨g, 0, none⟩) l.length c) from q1)
      have HK1 := Lib.hid (show (World.drew ((((w.setCell ⟨g, i * 4, none⟩ (.int .i64 y.cost)).setCell ⟨g, i * 4 + 1, none⟩ (.int .i64 y.node)).setCell ⟨g, i * 4 + 2, none⟩ (.int .i64 (y.h : Nat))).setCell ⟨g, i * 4 + 3, none⟩ (.int .i64 (y.t : Nat)))).cell? ⟨q, 1, none⟩ = some (.slice (some ⟨g, 0, none⟩) l.length c) from drew_cell (keepS (i := i) (e := y) q1 hgq))
      have HK2 := Lib.hid (show (World.drew ((((((((w.setCell ⟨g, i * 4, none⟩ (.int .i64 y.cost)).setCell ⟨g, i * 4 + 1, none⟩ (.int .i64 y.node)).setCell ⟨g, i * 4 + 2, none⟩ (.int .i64 (y.h : Nat))).setCell ⟨g, i * 4 + 3, none⟩ (.int .i64 (y.t : Nat))).setCell ⟨g, j * 4, none⟩ (.int .i64 x.cost)).setCell ⟨g, j * 4 + 1, none⟩ (.int .i64 x.node)).setCell ⟨g, j * 4 + 2, none⟩ (.int .i64 (x.h : Nat))).setCell ⟨g, j * 4 + 3, none⟩ (.int .i64 (x.t : Nat)))).cell? ⟨q, 1, none⟩ = some (.slice (some ⟨g, 0, none⟩) l.length c) from drew_cell (keepS (i := j) (e := x) (keepS (i := i) (e := y) q1 hgq) hgq))
      simp only [ldE_eq]
      go_region_held3 (fun w' => w'.cell? ⟨q, 1, none⟩ = some (.slice (some ⟨g, 0, none⟩) l.length c))
        (first | with_reducible exact HK0.out | with_reducible exact HK1.out | with_reducible exact HK2.out) (fail)
      all_goals
        go_wp2_with fail
        go_meet
        exact swap_row HO0.out HX.out HY.out
  case rest =>
    obtain ⟨O1, T1⟩ := hcut
    rename World => w1
    clear x0 x1 x2 x3 y0 y1 y2 y3 q1 q2
    have K1 := HK.out.touch T1 hqg
    have M1 := HM.out.keep (T1.block b HM.out.lt hbg)
    have at_ := swp_at hil hjl
    have hlj : (swp l i j)[j]? = some x := by rw [at_, if_pos rfl, HX.out]
    have hli : (swp l i j)[i]? = some y := by
      rw [at_]
      split
      · rename_i e; rw [e]; exact HY.out
      · rw [if_pos rfl, HY.out]
    obtain ⟨x0, x1, x2, x3⟩ := O1.at_ hlj
    obtain ⟨y0, y1, y2, y3⟩ := O1.at_ hli
    clear x0 x1 x3 y0 y1 y3 at_ hlj hli
    have fx := HA.out.to i x HX.out
    have fy := HA.out.to j y HY.out
    have hwx := wfN (n := x.h) (by omega)
    have hwy := wfN (n := y.h) (by omega)
    obtain ⟨v1, s1, hr1, hs1⟩ := (M1.drew).entry hwy (by rw [fy]; rfl) (by unfold maxLen; omega)
    obtain ⟨w4, hr2, M4, T4⟩ := hs1 w1.drew i rfl (by omega)
    obtain ⟨v2, s2, hr3, hs2⟩ := M4.entry hwx (by simp only [fput]; split; rfl; rw [fx]; rfl) (by unfold maxLen; omega)
    obtain ⟨w5, hr4, M5, T5⟩ := hs2 w4 j rfl (by omega)
    have k1 := K1.cell 1
    have k2 := K1.cell 2
    simp at k1 k2
    have h9 : ∀ w9 : World, (∀ p, p ≠ b → w9.heap[p]? = w1.heap[p]?) → w9.cell? ⟨q, 1, none⟩ = some (.slice (some ⟨g, 0, none⟩) l.length c) ∧ w9.cell? ⟨q, 2, none⟩ = some (.map (some b)) ∧ w9.cell? ⟨g, i * 4 + 2, none⟩ = some (.int .i64 (y.h : Nat)) ∧ w9.cell? ⟨g, j * 4 + 2, none⟩ = some (.int .i64 (x.h : Nat)) := fun w9 h =>
      ⟨(World.cell?_of_block (w := w1) (a := ⟨q, 1, none⟩) (h q (fun e => hbq e.symm))).trans k1, (World.cell?_of_block (w := w1) (a := ⟨q, 2, none⟩) (h q (fun e => hbq e.symm))).trans k2,
        (World.cell?_of_block (w := w1) (h g (fun e => hbg e.symm))).trans y2, (World.cell?_of_block (w := w1) (h g (fun e => hbg e.symm))).trans x2⟩
    have H9 := Lib.hid h9
    clear h9 hs1 hs2
    go_upto_region 1 with fail
    go_region_held3 (fun w' => w'.cell? ⟨q, 1, none⟩ = some (.slice (some ⟨g, 0, none⟩) l.length c) ∧ w'.cell? ⟨q, 2, none⟩ = some (.map (some b)) ∧ w'.cell? ⟨g, i * 4 + 2, none⟩ = some (.int .i64 (y.h : Nat)) ∧ w'.cell? ⟨g, j * 4 + 2, none⟩ = some (.int .i64 (x.h : Nat)))
      (first | exact H9.out _ (fun _ _ => rfl) | exact H9.out _ (turned_block T4).1 | exact H9.out _ (fun p hp => ((turned_block T5).1 p hp).trans ((turned_block T4).1 p hp))) (fail)
    go_wp2_with fail
    go_end0
    have T4' : Touch (fun k => k = b) w1 w4 := (turned_touch T4).oundrew
    have T5' := turned_touch T5
    rw [swp_length]
    refine ⟨_, rfl, K1.touch (T4'.trans T5' (fun k h => .inl h)) (fun (e : q = b) => hbq e.symm), own_touch (own_touch O1 T4' ?_) T5' ?_, M5, ?_⟩
    · intro k hk hb
      simp [Value.ownBlock] at hk
      exact hbg (by omega)
    · intro k hk hb
      simp [Value.ownBlock] at hk
      exact hbg (by omega)
    · exact ((T1.mono (fun k h => .inl h)).trans (T4'.mono (fun k h => .inr h)) (fun k h => .inl h)).trans (T5'.mono (fun k h => .inr h)) (fun k h => .inl h)
end Go.Proofs.Ytbalhkbpmahkgaa.Oq

namespace Go.Proofs.Ytbalhkbpmahkgaa.Oq
open Go.RowKit

/-- A queue whose row is there: its list l, its map f. -/
def QR (w : World) (q g c b : Nat) (l : List Ent) (nx ck : Nat) (f : Int → Option Nat) : Prop :=
  Blk w q 75 #[.func (.func 41) #[] #[], .slice (some ⟨g, 0, none⟩) l.length c, .map (some b), .int .i64 nx, .int .i64 ck] ∧ OwnE w (some ⟨g, 0, none⟩) c l ∧ MapI w b nx f
theorem QR.below {w w' : World} {q g c b nx ck : Nat} {l : List Ent} {f : Int → Option Nat} (h : QR w q g c b l nx ck f) (hb : Below w.heap.size w w') : QR w' q g c b l nx ck f :=
  ⟨h.1.below hb h.1.lt, own_below h.2.1 hb, h.2.2.keep (hb.block b h.2.2.lt)⟩
/-- Handles below a bound. -/
def HB (l : List Ent) : Prop := ∀ e ∈ l, e.h ≤ 1000000000
theorem HB.perm {l l' : List Ent} (h : HB l) (hp : l'.Perm l) : HB l' := fun e he => h e (hp.mem_iff.1 he)

set_option maxRecDepth 100000 in
set_option maxHeartbeats 2000000 in
theorem up_any (w : World) (q g c b nx ck : Nat) (l : List Ent) (f : Int → Option Nat) (i : Nat) (hi : i < l.length) (h : QR w q g c b l nx ck f) (hA : Agree l f) (hn : nx ≤ 1000000000) (hll : l.length ≤ 1000000000) (hh : HB l) (hB : Both bf l i) :
    Calls Try.prog 45 #[.pointer (some ⟨q, 0, none⟩), .int .i64 i] w fun e w' => ∃ v l' f' i', e = .returned v ∧
      QR w' q g c b l' nx ck f' ∧ Agree l' f' ∧ l'.Perm l ∧ l'[i']? = l[i]? ∧ Down bf l' i' ∧ (Kids bf l i → Kids bf l' i') ∧ Touch (fun k => k = g ∨ k = b) w w' := by
  have HQ := Lib.hid h
  have HA := Lib.hid hA
  have HH := Lib.hid hh
  have HBo := Lib.hid hB
  clear h hA hh hB
  go_enter Try.func45, Try.ntmps45
  go_wp2_with fail
  go_loopw [1] (fun a wr => ∃ (j : Nat) (l' : List Ent) (f' : Int → Option Nat), a = .int .i64 j ∧ j < l'.length ∧ Hid (QR wr q g c b l' nx ck f') ∧ Hid (Agree l' f') ∧ Hid (l'.Perm l) ∧ Hid (l'[j]? = l[i]?) ∧ Hid (Both bf l' j) ∧ Hid (Kids bf l i → Kids bf l' j) ∧ Touch (fun k => k = g ∨ k = b) w wr) (fun a _ => (intOf a).toNat)
  case atStart => exact ⟨i, l, f, rfl, hi, HQ, HA, Lib.hid (List.Perm.refl _), Lib.hid rfl, HBo, Lib.hid (fun h => h), Touch.refl _ _⟩
  case round =>
    obtain ⟨j, l', f', rfl, hj, HQ1, HA1, HP1, HE1, HB1, HK1, T1⟩ := hrel
    clear HQ HA HBo
    have hlen := HP1.out.length_eq
    by_cases h0 : 0 < j
    case neg =>
      obtain rfl : j = 0 := by omega
      have hd : decide ((0 : Int) < ((0 : Nat) : Int)) = false := rfl
      go_wp2_with fail
      go_end0
      exact ⟨_, l', f', 0, rfl, HQ1.out, HA1.out, HP1.out, HE1.out, ⟨HB1.out, fun h => absurd h (by omega)⟩, HK1.out, T1⟩
    case pos =>
      have hd : decide (0 < j) = true := by simp [h0]
      obtain ⟨p, hp⟩ : ∃ p, (j - 1) / 2 = p := ⟨_, rfl⟩
      have hpl : p < l'.length := by omega
      have v1 : IntKind.i64.wrap ((j : Int) - 1) = (j : Int) - 1 := IntWalk.i64_in _ (by omega)
      have v2 : ((j : Int) - 1).tdiv 2 = (p : Int) := by rw [Int.tdiv_eq_ediv_of_nonneg (by omega)]; omega
      have v3 : IntKind.i64.wrap (p : Int) = (p : Int) := IntWalk.i64_in _ (by omega)
      have v4 : ((j : Int) - 1) / 2 = (p : Int) := by omega
      have HPp := Lib.hid hp
      obtain ⟨x, hx⟩ : ∃ x, l'[j]? = some x := ⟨_, List.getElem?_eq_getElem hj⟩
      obtain ⟨y, hy⟩ : ∃ y, l'[p]? = some y := ⟨_, List.getElem?_eq_getElem hpl⟩
      have HX := Lib.hid hx
      have HY := Lib.hid hy
      clear hp hx hy
      go_wp2_with fail
      refine (before_any wr q g c nx ck (.map (some b)) l' j p x y HQ1.out.1 HQ1.out.2.1 HX.out HY.out).mono ?_
      rintro e w1 ⟨rfl, hb1⟩
      have HQ2 := Lib.hid (HQ1.out.below hb1)
      have T2 := T1.below hb1
      clear HQ1 T1 hb1
      cases hbf : bf x y with
      | false =>
        go_wp2_with fail
        go_end0
        refine ⟨_, l', f', j, rfl, HQ2.out, HA1.out, HP1.out, HE1.out, ⟨HB1.out, fun _ => ?_⟩, HK1.out, T2⟩
        rw [HPp.out]
        intro a b ha hb
        rw [HY.out] at ha
        rw [HX.out] at hb
        injection ha with ha
        injection hb with hb
        subst ha hb
        exact hbf
      | true =>
        go_wp2_with fail
        refine (swap_any w1 q g c b nx ck l' f' j p x y HQ2.out.1 HQ2.out.2.1 HQ2.out.2.2 HA1.out HX.out HY.out hn (by omega) ⟨(HH.out.perm HP1.out) x (List.mem_of_getElem? HX.out), (HH.out.perm HP1.out) y (List.mem_of_getElem? HY.out)⟩).mono ?_
        rintro e w2 ⟨v, rfl, K3, O3, M3, T3⟩
        have HQ3 := Lib.hid (show QR w2 q g c b (swp l' j p) nx ck _ from ⟨K3, O3, M3⟩)
        have HA3 := Lib.hid (swap_agree HA1.out HX.out HY.out)
        have hup := HB1.out.up bf_ord h0 hj HX.out (by rw [HPp.out]; exact HY.out) hbf
        rw [HPp.out] at hup
        have HU := Lib.hid hup
        have hpe : (swp l' j p)[p]? = l[i]? := by rw [swp_at hj hpl, if_pos rfl]; exact HE1.out
        have HPE := Lib.hid hpe
        clear K3 O3 M3 hup hpe
        have T4 := T2.trans T3 (fun k h => .inl h)
        go_wp2_with fail
        go_roundw
        case rel => exact ⟨p, swp l' j p, _, by first | rfl | go_num, by rw [swp_length]; exact hpl, HQ3, HA3, Lib.hid ((swp_perm j p).trans HP1.out), HPE, Lib.hid HU.out.1, Lib.hid (fun _ => HU.out.2), T4⟩
        case measure => have := HPp.out; simp [intOf]; omega
end Go.Proofs.Ytbalhkbpmahkgaa.Oq

namespace Go.Proofs.Ytbalhkbpmahkgaa.Oq
open Go.RowKit

/-- The least of an entry and those of its children that were looked at. -/
structure Least (l : List Ent) (j m k : Nat) : Prop where
  ml : m < l.length
  or : m = j ∨ (0 < m ∧ (m - 1) / 2 = j ∧ ∃ x y, l[m]? = some x ∧ l[j]? = some y ∧ bf x y = true)
  own : LeAt bf l m j
  all : ∀ c, 2 * j + 1 ≤ c → c < k → c < l.length → LeAt bf l m c
theorem Least.start {l : List Ent} {j : Nat} (h : j < l.length) : Least l j j (2 * j + 1) := ⟨h, .inl rfl, LeAt.refl bf_ord l j, fun c h1 h2 => absurd h1 (by omega)⟩
theorem Least.keep {l : List Ent} {j m k : Nat} (h : Least l j m k) {x y : Ent} (hx : l[k]? = some x) (hy : l[m]? = some y) (hb : bf x y = false) : Least l j m (k + 1) := by
  refine ⟨h.ml, h.or, h.own, fun c h1 h2 h3 => ?_⟩
  rcases Nat.lt_or_ge c k with h4 | h4
  · exact h.all c h1 h4 h3
  · obtain rfl : c = k := by omega
    intro a b ha hb'
    rw [hy] at ha
    rw [hx] at hb'
    injection ha with ha
    injection hb' with hb'
    subst ha hb'
    exact hb
theorem Least.take {l : List Ent} {j m k : Nat} (h : Least l j m k) (hk : 2 * j + 1 ≤ k) (hk2 : k ≤ 2 * j + 2) {x y : Ent} (hx : l[k]? = some x) (hy : l[m]? = some y) (hb : bf x y = true) : Least l j k (k + 1) := by
  have hkl := (List.getElem?_eq_some_iff.1 hx).1
  have hyx := bf_ord.asym hb
  have hkm : LeAt bf l k m := fun a b ha hb' => by
    rw [hx] at ha
    rw [hy] at hb'
    injection ha with ha
    injection hb' with hb'
    subst ha hb'
    exact hyx
  have hkj := hkm.trans bf_ord h.ml h.own
  have hjl : j < l.length := by omega
  refine ⟨hkl, .inr ⟨by omega, by omega, x, _, hx, List.getElem?_eq_getElem hjl, ?_⟩, hkj, fun c h1 h2 h3 => ?_⟩
  · cases hbf : bf x l[j] with
    | true => rfl
    | false =>
      have h1 := h.own y _ hy (List.getElem?_eq_getElem hjl)
      have := bf_ord.trans h1 hbf
      rw [hb] at this
      exact this.symm
  · rcases Nat.lt_or_ge c k with h4 | h4
    · exact hkm.trans bf_ord h.ml (h.all c h1 h4 h3)
    · obtain rfl : c = k := by omega
      exact LeAt.refl bf_ord l c
theorem Least.kids {l : List Ent} {j m k : Nat} (h : Least l j m k) (hk : 2 * j + 2 < k ∨ l.length ≤ k) : ∀ c, 0 < c → c < l.length → (c - 1) / 2 = j → LeAt bf l m c := fun c h0 hl hc => h.all c (by omega) (by omega) hl

set_option maxRecDepth 100000 in
set_option maxHeartbeats 2000000 in
theorem down_any (w : World) (q g c b nx ck : Nat) (l : List Ent) (f : Int → Option Nat) (i : Nat) (hi : i < l.length ∨ (i = 0 ∧ l = [])) (h : QR w q g c b l nx ck f) (hA : Agree l f) (hn : nx ≤ 1000000000) (hll : l.length ≤ 1000000000) (hh : HB l) (hD : Down bf l i) :
    Calls Try.prog 47 #[.pointer (some ⟨q, 0, none⟩), .int .i64 i] w fun e w' => ∃ v l' f', e = .returned v ∧
      QR w' q g c b l' nx ck f' ∧ Agree l' f' ∧ l'.Perm l ∧ HeapOrd bf l' ∧ Touch (fun k => k = g ∨ k = b) w w' := by
  have HQ := Lib.hid h
  have HA := Lib.hid hA
  have HH := Lib.hid hh
  have HD := Lib.hid hD
  have HI := Lib.hid hi
  clear h hA hh hD hi
  go_enter Try.func47, Try.ntmps47
  go_wp2_with fail
  go_loopw [1] (fun a wr => ∃ (j : Nat) (l' : List Ent) (f' : Int → Option Nat), a = .int .i64 j ∧ Hid (j < l'.length ∨ (j = 0 ∧ l' = [])) ∧ Hid (QR wr q g c b l' nx ck f') ∧ Hid (Agree l' f') ∧ Hid (l'.Perm l) ∧ Hid (Down bf l' j) ∧ Touch (fun k => k = g ∨ k = b) w wr) (fun a _ => l.length - (intOf a).toNat)
  case atStart => exact ⟨i, l, f, rfl, HI, HQ, HA, Lib.hid (List.Perm.refl _), HD, Touch.refl _ _⟩
  case round =>
    obtain ⟨j, l', f', rfl, HJ, HQ1, HA1, HP1, HD1, T1⟩ := hrel
    clear HQ HA HD HI
    have hlen := HP1.out.length_eq
    have hj2 : j ≤ 1000000000 := by rcases HJ.out with h | ⟨h, _⟩ <;> omega
    have v1 : IntKind.i64.wrap (2 * (j : Int)) = 2 * (j : Int) := IntWalk.i64_in _ (by omega)
    have v2 : IntKind.i64.wrap (2 * (j : Int) + 1) = 2 * (j : Int) + 1 := IntWalk.i64_in _ (by omega)
    have v3 : IntKind.i64.wrap (2 * (j : Int) + 2) = 2 * (j : Int) + 2 := IntWalk.i64_in _ (by omega)
    go_upto_block 2 with fail
    go_cut [4, 5] (fun a4 a5 wx => ∃ m k : Nat, a4 = .int .i64 m ∧ a5 = .int .i64 k ∧ Hid ((j < l'.length ∧ Least l' j m k) ∨ (l' = [] ∧ m = j)) ∧ Hid (2 * j + 2 < k ∨ l'.length ≤ k) ∧ Below wr.heap.size wr wx)
    case first =>
      go_wp2_with fail
      go_loopw [4, 5] (fun a4 a5 wx => ∃ m k : Nat, a4 = .int .i64 m ∧ a5 = .int .i64 k ∧ 2 * j + 1 ≤ k ∧ k ≤ 2 * j + 3 ∧ Hid ((j < l'.length ∧ Least l' j m k) ∨ (l' = [] ∧ m = j)) ∧ Below wr.heap.size wr wx) (fun _ a5 _ => 2 * j + 3 - (intOf a5).toNat)
      case atStart =>
        refine ⟨j, 2 * j + 1, rfl, by first | rfl | go_num, Nat.le_refl _, by omega, Lib.hid ?_, Below.refl _ _⟩
        rcases HJ.out with h | ⟨h, h2⟩
        · exact .inl ⟨h, Least.start h⟩
        · exact .inr ⟨h2, rfl⟩
      case round =>
        obtain ⟨m, k, rfl, rfl, hk1, hk2, HL, hbx⟩ := hrel
        rename World => wx
        have HQx := Lib.hid (HQ1.out.below hbx)
        have q1 := HQx.out.1.cell 1
        simp at q1
        by_cases hk3 : k ≤ 2 * j + 2
        case neg =>
          have hkD : decide ((k : Int) ≤ 2 * (j : Int) + 2) = false := by simp; omega
          go_wp2_with fail
          go_meet
          exact ⟨m, k, rfl, rfl, HL, Lib.hid (.inl (by omega)), hbx⟩
        case pos =>
          have hkD : decide ((k : Int) ≤ 2 * (j : Int) + 2) = true := by simp; omega
          by_cases hkl : k < l'.length
          case neg =>
            have hlD : decide (k < l'.length) = false := by simp [hkl]
            go_wp2_with fail
            go_meet
            exact ⟨m, k, rfl, rfl, HL, Lib.hid (.inr (by omega)), hbx⟩
          case pos =>
            have hlD : decide (k < l'.length) = true := by simp [hkl]
            obtain ⟨hjl, hL⟩ : j < l'.length ∧ Least l' j m k := by
              rcases HL.out with h | ⟨h, _⟩
              · exact h
              · rw [h] at hkl; simp at hkl
            have HLL := Lib.hid hL
            have hml := hL.ml
            obtain ⟨x, hx⟩ : ∃ x, l'[k]? = some x := ⟨_, List.getElem?_eq_getElem hkl⟩
            obtain ⟨y, hy⟩ : ∃ y, l'[m]? = some y := ⟨_, List.getElem?_eq_getElem hml⟩
            have HX := Lib.hid hx
            have HY := Lib.hid hy
            have u1 : IntKind.i64.wrap ((k : Int) + 1) = (k : Int) + 1 := IntWalk.i64_in _ (by omega)
            clear hx hy hL HL
            go_wp2_with fail
            refine (before_any wx q g c nx ck (.map (some b)) l' k m x y HQx.out.1 HQx.out.2.1 HX.out HY.out).mono ?_
            rintro e w1 ⟨rfl, hb1⟩
            have hb2 : Below wr.heap.size wr w1 := hbx.trans (hb1.mono hbx.size)
            clear q1
            cases hbf : bf x y with
            | false =>
              have HN := Lib.hid (HLL.out.keep HX.out HY.out hbf)
              go_wp2_with fail
              go_roundw
              case rel => exact ⟨m, k + 1, rfl, by first | rfl | go_num, by omega, by omega, Lib.hid (.inl ⟨hjl, HN.out⟩), hb2⟩
              case measure => simp [intOf]; omega
            | true =>
              have HN := Lib.hid (HLL.out.take hk1 hk3 HX.out HY.out hbf)
              go_wp2_with fail
              go_roundw
              case rel => exact ⟨k, k + 1, rfl, by first | rfl | go_num, by omega, by omega, Lib.hid (.inl ⟨hjl, HN.out⟩), hb2⟩
              case measure => simp [intOf]; omega
    case rest =>
      obtain ⟨m, k, rfl, rfl, HL, HK, hbx⟩ := hcut
      rename World => wx
      have HQx := Lib.hid (HQ1.out.below hbx)
      have T2 := T1.below hbx
      clear HQ1 T1 hbx v1 v2 v3
      by_cases hmj : m = j
      case pos =>
        subst hmj
        have hmm : ((m : Int) == (m : Int)) = true := beq_self_eq_true _
        go_wp2_with fail
        refine bodyPost_ret (results_none rfl _ _ _) rfl ?_
        refine ⟨⟨_, rfl⟩, l', f', HQx.out, HA1.out, HP1.out, HD1.out.heap ?_, T2⟩
        rcases HL.out with ⟨_, h⟩ | ⟨h, _⟩
        · exact h.kids HK.out
        · rw [h]; intro c h0 hl; simp at hl
      case neg =>
        have hmm : ((m : Int) == (j : Int)) = false := by rw [beq_eq_false_iff_ne]; omega
        obtain ⟨hjl, hL⟩ : j < l'.length ∧ Least l' j m k := by
          rcases HL.out with h | ⟨_, h⟩
          · exact h
          · exact absurd h hmj
        have HLL := Lib.hid hL
        have hml := hL.ml
        obtain ⟨hm0, hmp, x, y, hx, hy, hbf⟩ : 0 < m ∧ (m - 1) / 2 = j ∧ ∃ x y, l'[m]? = some x ∧ l'[j]? = some y ∧ bf x y = true := hL.or.resolve_left hmj
        have HX := Lib.hid hx
        have HY := Lib.hid hy
        have HBF := Lib.hid hbf
        have HMP := Lib.hid hmp
        clear hx hy hL HL hbf hmp
        go_wp2_with fail
        refine (swap_any wx q g c b nx ck l' f' j m y x HQx.out.1 HQx.out.2.1 HQx.out.2.2 HA1.out HY.out HX.out hn (by omega) ⟨(HH.out.perm HP1.out) y (List.mem_of_getElem? HY.out), (HH.out.perm HP1.out) x (List.mem_of_getElem? HX.out)⟩).mono ?_
        rintro e w2 ⟨v, rfl, K3, O3, M3, T3⟩
        have HQ3 := Lib.hid (show QR w2 q g c b (swp l' j m) nx ck _ from ⟨K3, O3, M3⟩)
        have HA3 := Lib.hid (swap_agree HA1.out HY.out HX.out)
        have HD3 := Lib.hid (HD1.out.down bf_ord hm0 hml HMP.out HY.out HX.out HBF.out (HLL.out.kids HK.out))
        clear K3 O3 M3
        have T4 := T2.trans T3 (fun k h => .inl h)
        go_wp2_with fail
        go_roundw
        case rel => exact ⟨m, swp l' j m, _, rfl, Lib.hid (.inl (by rw [swp_length]; exact hml)), HQ3, HA3, Lib.hid ((swp_perm j m).trans HP1.out), HD3, T4⟩
        case measure => have := HMP.out; simp [intOf]; omega
end Go.Proofs.Ytbalhkbpmahkgaa.Oq

namespace Go.Proofs.Ytbalhkbpmahkgaa.Oq
open Go.RowKit

/-- Entries that a queue may hold: handles and times are different, and below the next ones. -/
structure QOk (L : List Ent) (nx ck : Nat) : Prop where
  hb : ∀ e ∈ L, e.h < nx
  tb : ∀ e ∈ L, e.t < ck
  td : (L.map Ent.t).Nodup
  len : L.length ≤ nx
  nxb : nx ≤ 100000000
  ckb : ck ≤ 100000000
/-- A queue that holds the entries L, in whatever order. -/
def PQ (w : World) (F : Nat → Prop) (q : Nat) (L : List Ent) (nx ck : Nat) : Prop :=
  ∃ l f, QM w F q l nx ck f ∧ Agree l f ∧ l.Perm L ∧ HeapOrd bf l ∧ QOk L nx ck
section
variable {F G : Nat → Prop} {w w' : World} {q nx ck : Nat} {L : List Ent}
theorem PQ.touch (h : PQ w F q L nx ck) (ht : Touch G w w') (hd : ∀ k, F k → ¬ G k) : PQ w' F q L nx ck := by
  obtain ⟨l, f, h1, h2⟩ := h
  exact ⟨l, f, h1.touch ht hd, h2⟩
theorem PQ.below (h : PQ w F q L nx ck) (hb : Below w.heap.size w w') : PQ w' F q L nx ck := by
  obtain ⟨l, f, h1, h2⟩ := h
  exact ⟨l, f, h1.below hb, h2⟩
theorem PQ.mono (h : PQ w F q L nx ck) (hF : ∀ k, F k → G k) : PQ w G q L nx ck := by
  obtain ⟨l, f, h1, h2⟩ := h
  exact ⟨l, f, h1.mono hF, h2⟩
theorem PQ.precise (h : PQ w F q L nx ck) : ∃ G : Nat → Prop, (∀ k, G k → F k ∧ k < w.heap.size) ∧ PQ w G q L nx ck := by
  obtain ⟨l, f, h1, h2⟩ := h
  obtain ⟨G, hG, h3⟩ := h1.precise
  exact ⟨G, hG, l, f, h3, h2⟩
theorem PQ.drewN (h : PQ w F q L nx ck) (n : Nat) : PQ (w.drewN n) F q L nx ck := h.below (below_drewN (Below.refl _ _) n)
theorem PQ.ok (h : PQ w F q L nx ck) : QOk L nx ck := by
  obtain ⟨l, f, h1, h2, h3, h4, h5⟩ := h
  exact h5
end
/-- What a call on a queue leaves. -/
def QPost (w : World) (F : Nat → Prop) (q : Nat) (L : List Ent) (nx ck : Nat) (w' : World) : Prop := ∃ G : Nat → Prop, PQ w' G q L nx ck ∧ Touch F w w' ∧ ∀ k, G k → F k ∨ w.heap.size ≤ k

theorem new_any (w : World) : Calls Try.prog 40 #[.func (.func 41) #[] #[]] w fun e w' => e = .returned (.pointer (some ⟨w.heap.size + 1, 0, none⟩)) ∧ PQ w' (fun k => w.heap.size ≤ k) (w.heap.size + 1) [] 0 0 ∧ Below w.heap.size w w' := by
  have hmm := @run_makeMap Try.prog
  go_enter Try.func40, Try.ntmps40
  go_wp2_with fail
  go_ret
  refine ⟨rfl, ⟨[], fun _ => none, ⟨none, 0, w.heap.size, Blk.new' (w.alloc _) _ _ (by simp), World.ownsRow_nil _ _ _ _, (MapI.made w).alloc _, by simp, Nat.le_refl _, by simp [Value.ownBlock]⟩, ⟨by simp, by simp⟩, List.Perm.refl _, fun k h0 hk => by simp at hk, ⟨by simp, by simp, by simp, by simp, by omega, by omega⟩⟩, ?_⟩
  exact ((Below.refl _ _).alloc (Nat.le_refl _) _).alloc (by simp) _
end Go.Proofs.Ytbalhkbpmahkgaa.Oq

namespace Go.Proofs.Ytbalhkbpmahkgaa.Oq
open Go.RowKit

theorem results_elem {fn : Func} {p r : Tmp} (h : fn.results = #[.cell p 67, .tmp r]) {tmps : Array Value} {b : Nat} (hp : tmps.getD p undef = .pointer (some ⟨b, 0, none⟩)) {w : World} {v : Value}
    {v0 : Value} (h0 : w.cell? ⟨b, 0, none⟩ = some v0) {v1 : Value} (h1 : w.cell? ⟨b, 1, none⟩ = some v1) (hv : tmps.getD r undef = v) : (results fn tmps).run Try.prog w = .ok (.tuple #[.agg #[v0, v1], v]) w := by
  have hp' : tmps[p]?.getD undef = .pointer (some ⟨b, 0, none⟩) := by rw [← hp]; simp
  have hv' : tmps[r]?.getD undef = v := by rw [← hv]; simp
  simp only [results, h]
  simp [go_sem, asAddr, hp', hv', h0, h1]

/-- The first of the entries. -/
def IsMin (m : Ent) (L : List Ent) : Prop := m ∈ L ∧ ∀ e ∈ L, e.t ≠ m.t → bf m e = true
theorem heap_min {l L : List Ent} {m : Ent} (hH : HeapOrd bf l) (hp : l.Perm L) (hm : l[0]? = some m) : IsMin m L := by
  refine ⟨hp.mem_iff.1 (List.mem_of_getElem? hm), fun e he ht => ?_⟩
  obtain ⟨k, hk⟩ := List.getElem?_of_mem (hp.mem_iff.2 he)
  have := hH.root bf_ord k (List.getElem?_eq_some_iff.1 hk).1 m e hm hk
  exact bf_total ht this
theorem IsMin.uniq {m m' : Ent} {L : List Ent} (h : IsMin m L) (h' : IsMin m' L) (hd : (L.map Ent.t).Nodup) : m = m' := by
  by_cases e : m'.t = m.t
  · obtain ⟨i, hi⟩ := List.getElem?_of_mem h.1
    obtain ⟨j, hj⟩ := List.getElem?_of_mem h'.1
    have a1 : (L.map Ent.t)[i]? = some m.t := by rw [List.getElem?_map, hi]; rfl
    have a2 : (L.map Ent.t)[j]? = some m.t := by rw [List.getElem?_map, hj, ← e]; rfl
    have hij := (List.getElem?_inj (List.getElem?_eq_some_iff.1 a1).1 hd).1 (a1.trans a2.symm)
    subst hij
    rw [hi] at hj
    injection hj
  · have b1 := h.2 m' h'.1 e
    have b2 := h'.2 m h.1 (fun e' => e e'.symm)
    rw [bf_ord.asym b1] at b2
    cases b2

end Go.Proofs.Ytbalhkbpmahkgaa.Oq

namespace Go.Proofs.Ytbalhkbpmahkgaa.Oq
open Go.RowKit

theorem set_next {w : World} {q : Nat} {a0 a1 a2 a3 a4 x y : Value} (h : Blk w q 75 #[a0, a1, a2, a3, a4]) :
    Blk (((w.setCell ⟨q, 3, none⟩ x).setCell ⟨q, 4, none⟩ y).drew) q 75 #[a0, a1, a2, x, y] ∧ Touch (fun k => k = q) w (((w.setCell ⟨q, 3, none⟩ x).setCell ⟨q, 4, none⟩ y).drew) := by
  refine ⟨?_, (((Touch.refl (fun k => k = q) w).setCell (p := ⟨q, 3, none⟩) (.inl rfl) x).setCell (p := ⟨q, 4, none⟩) (.inl rfl) y).odrew1⟩
  have h2 : Blk ((w.setCell ⟨q, 3, none⟩ x).setCell ⟨q, 4, none⟩ y) q 75 #[a0, a1, a2, x, y] := by
    have := (h.set_ 3 x).set_ 4 y
    simpa using this
  exact h2.drewN 1
theorem push_set {w : World} {q gg n cap : Nat} {a0 a1 a2 a3 a4 : Value} (h : Blk w q 75 #[a0, a1, a2, a3, a4]) : Blk (w.setCell ⟨q, 1, none⟩ (.slice (some ⟨gg, 0, none⟩) (n + 1) cap)) q 75 #[a0, .slice (some ⟨gg, 0, none⟩) (n + 1) cap, a2, a3, a4] := by
  have := h.set_ 1 (.slice (some ⟨gg, 0, none⟩) (n + 1) cap)
  simpa using this
theorem push_agree {l : List Ent} {f : Int → Option Nat} {n nx : Nat} (h : Agree l f) (hn : l.length = n) (hb : ∀ e ∈ l, e.h < nx) {e : Ent} (he : e.h = nx) : Agree (l ++ [e]) (fput f nx n) := by
  subst hn
  refine ⟨fun i t ht => ?_, fun k i hk => ?_⟩
  · rcases Nat.lt_or_ge i l.length with hi | hi
    · rw [List.getElem?_append_left hi] at ht
      have := hb t (List.mem_of_getElem? ht)
      simp only [fput]
      rw [if_neg (by omega)]
      exact h.to i t ht
    · rw [List.getElem?_append_right hi] at ht
      have hi2 := (List.getElem?_eq_some_iff.1 ht).1
      simp at hi2
      have hi3 : i = l.length := by omega
      subst hi3
      simp at ht
      subst ht
      simp [fput, he]
  · simp only [fput] at hk
    by_cases e1 : k = (nx : Int)
    · rw [if_pos e1] at hk
      injection hk with hk
      subst hk
      exact ⟨e, by simp, by rw [he, e1]⟩
    · rw [if_neg e1] at hk
      obtain ⟨t, ht, htk⟩ := h.fro k i hk
      exact ⟨t, by rw [List.getElem?_append_left (List.getElem?_eq_some_iff.1 ht).1]; exact ht, htk⟩
theorem QOk.push {L : List Ent} {nx ck : Nat} (h : QOk L nx ck) (hnx : nx < 100000000) (hck : ck < 100000000) {e : Ent} (he : e.h = nx) (ht : e.t = ck) : QOk (L ++ [e]) (nx + 1) (ck + 1) := by
  refine ⟨fun t hm => ?_, fun t hm => ?_, ?_, by have := h.len; simp; omega, by omega, by omega⟩
  · rcases List.mem_append.1 hm with h1 | h1
    · have := h.hb t h1; omega
    · simp at h1; subst h1; omega
  · rcases List.mem_append.1 hm with h1 | h1
    · have := h.tb t h1; omega
    · simp at h1; subst h1; omega
  · rw [List.map_append, List.nodup_append]
    refine ⟨h.td, by simp, fun a ha b hb => ?_⟩
    obtain ⟨t, h1, rfl⟩ := List.mem_map.1 ha
    simp at hb
    have := h.tb t h1
    omega
theorem own_drew {w : World} {base : Nat} {e : TypeId} {size n : Nat} {v : Value} {xs : List Value} (h : w.ownsRow base e size v n xs) : w.drew.ownsRow base e size v n xs := h
theorem infoEnt : (Try.prog.info? 77).map (fun i => (i.zero, i.size, i.bytes)) = some (some (.agg #[.int .i64 0, .int .i64 0, .int .i64 0, .int .i64 0]), 4, 32) := by kernel_rfl

abbrev ldH (p : Operand) : Op := .load 73 p
theorem ldH_eq (p : Operand) : Op.load 73 p = ldH p := rfl
abbrev ldI (p : Operand) : Op := .load 3 p
theorem ldI_eq (p : Operand) : Op.load 3 p = ldI p := rfl

set_option maxRecDepth 100000 in
set_option maxHeartbeats 2000000 in
theorem push_any (w : World) (F : Nat → Prop) (q nx ck : Nat) (L : List Ent) (x0 x1 : Int) (h : PQ w F q L nx ck) (hnx : nx < 100000000) (hck : ck < 100000000) :
    Calls Try.prog 42 #[.pointer (some ⟨q, 0, none⟩), .agg #[.int .i64 x0, .int .i64 x1]] w fun e w' => e = .returned (.int .i64 nx) ∧ QPost w F q (L ++ [⟨x0, x1, nx, ck⟩]) (nx + 1) (ck + 1) w' := by
  obtain ⟨i0, hi0, hz0, hz1, hz2⟩ := info_parts infoEnt
  obtain ⟨l, f, ⟨A, c, b, K, O, M, h1, h2, h3⟩, hA, hp, hH, hok⟩ := h
  have hlen := hp.length_eq
  have hll := hok.len
  obtain ⟨n, hN⟩ : ∃ n, l.length = n := ⟨_, rfl⟩
  have HK := Lib.hid K
  have HO := Lib.hid O
  have HM := Lib.hid M
  have H1 := Lib.hid h1
  have H2 := Lib.hid h2
  have H3 := Lib.hid h3
  have HA := Lib.hid hA
  have HP := Lib.hid hp
  have HH := Lib.hid hH
  have HOK := Lib.hid hok
  have HN := Lib.hid hN
  have hql := K.lt
  have q1 := K.cell 1
  have q3 := K.cell 3
  simp at q1 q3
  rw [hN] at q1
  have hn1 : n ≤ nx := by omega
  clear K O M h1 h2 h3 hA hp hH hok hlen hll hN
  go_enter Try.func42, Try.ntmps42
  go_wp2_with fail
  go_quiet (fail)
  go_upto_region 2 with fail
  obtain ⟨W, hW⟩ : ∃ W, (w.alloc (.cells #[.int .i64 x0, .int .i64 x1] 67)).drewN nq = W := ⟨_, rfl⟩
  rw [hW]
  have hbW : Below w.heap.size w W := by rw [← hW]; exact below_drewN ((Below.refl _ _).alloc (Nat.le_refl _) _) _
  have hsW : W.heap.size = w.heap.size + 1 := by rw [← hW]; show (w.alloc _).heap.size = _; simp
  have KB : Blk W w.heap.size 67 #[.int .i64 x0, .int .i64 x1] := by rw [← hW]; exact (Blk.new' w _ _ rfl).drewN _
  clear hW q1 q3
  have KW := HK.out.below hbW hql
  have OW := own_below HO.out hbW
  have MW := HM.out.keep (hbW.block b HM.out.lt)
  have hne := own_blk_ne OW KW (by decide)
  have hbA := MW.ne_own OW
  rw [HN.out] at OW KW hne hbA
  have HOW := Lib.hid OW
  have HKW := Lib.hid KW
  have HMW := Lib.hid MW
  have NE := Lib.hid hne
  have NB := Lib.hid hbA
  have e0 := KB.cell 0
  have e1 := KB.cell 1
  have k1 := KW.cell 1
  have k4 := KW.cell 4
  simp at e0 e1 k1 k4
  have NEWS := Lib.hid (show ∀ j u, (Ent.cells ⟨x0, x1, nx, ck⟩)[j]? = some u → ((W.alloc (.cells #[.int .i64 x0, .int .i64 x1, .int .i64 nx, .int .i64 ck] 77)).drew).cell? ((⟨w.heap.size + 1, 0, none⟩ : Addr).add j) = some u from
    fun j u hu => by
      rw [Addr.add_lit, Nat.zero_add, ← hsW]
      have h := (Blk.new' W 77 #[.int .i64 x0, .int .i64 x1, .int .i64 nx, .int .i64 ck] rfl).cell j
      refine Eq.trans h ?_
      rw [← Array.getElem?_toList]
      exact hu)
  have KWA : Blk (W.alloc (.cells #[.int .i64 x0, .int .i64 x1, .int .i64 nx, .int .i64 ck] 77)) q 75 #[.func (.func 41) #[] #[], .slice A n c, .map (some b), .int .i64 nx, .int .i64 ck] := KW.alloc _
  have k1a := KWA.cell 1
  simp at k1a
  have HOA := Lib.hid (show ((W.alloc (.cells #[.int .i64 x0, .int .i64 x1, .int .i64 nx, .int .i64 ck] 77)).drew).ownsRow 0 77 4 (.slice A n c) n (ents l) from own_drew (OW.alloc _))
  have HKA := Lib.hid (show Blk ((W.alloc (.cells #[.int .i64 x0, .int .i64 x1, .int .i64 nx, .int .i64 ck] 77)).drew) q 75 #[.func (.func 41) #[] #[], .slice A n c, .map (some b), .int .i64 nx, .int .i64 ck] from KWA.drewN 1)
  have HBA := Lib.hid (show Blk ((W.alloc (.cells #[.int .i64 x0, .int .i64 x1, .int .i64 nx, .int .i64 ck] 77)).drew) w.heap.size 67 #[.int .i64 x0, .int .i64 x1] from (KB.alloc _).drewN 1)
  have HMA := Lib.hid (show MapI ((W.alloc (.cells #[.int .i64 x0, .int .i64 x1, .int .i64 nx, .int .i64 ck] 77)).drew) b nx f from (MW.alloc _).drew)
  have HSA := Lib.hid (show ((W.alloc (.cells #[.int .i64 x0, .int .i64 x1, .int .i64 nx, .int .i64 ck] 77)).drew).heap.size = W.heap.size + 1 by show (W.alloc _).heap.size = _; simp)
  have HTA := Lib.hid (show Touch F w ((W.alloc (.cells #[.int .i64 x0, .int .i64 x1, .int .i64 nx, .int .i64 ck] 77)).drew) from ((Touch.of_below hbW).alloc _).drewN 1)
  have NE' := Lib.hid (show some q ≠ (Value.slice A n c).ownBlock from fun e => hne e.symm)
  have NB' := Lib.hid (show some b ≠ (Value.slice A n c).ownBlock from fun e => hbA e.symm)
  have NX' := Lib.hid (show some w.heap.size ≠ (Value.slice A n c).ownBlock from fun e => by have := own_lt HO.out (k := w.heap.size) (by rw [HN.out]; exact e.symm); omega)
  have HS0 := Lib.hid (show W.drew.cell? ⟨w.heap.size, 0, none⟩ = some (.int .i64 x0) ∧ W.drew.cell? ⟨w.heap.size, 1, none⟩ = some (.int .i64 x1) ∧ W.drew.cell? ⟨q, 4, none⟩ = some (.int .i64 ck) from ⟨KB.cell 0, KB.cell 1, KW.cell 4⟩)
  have HS1 := Lib.hid (show ((W.alloc (.cells #[.int .i64 x0, .int .i64 x1, .int .i64 nx, .int .i64 ck] 77)).drew).cell? ⟨w.heap.size, 0, none⟩ = some (.int .i64 x0) ∧ ((W.alloc (.cells #[.int .i64 x0, .int .i64 x1, .int .i64 nx, .int .i64 ck] 77)).drew).cell? ⟨w.heap.size, 1, none⟩ = some (.int .i64 x1) ∧ ((W.alloc (.cells #[.int .i64 x0, .int .i64 x1, .int .i64 nx, .int .i64 ck] 77)).drew).cell? ⟨q, 4, none⟩ = some (.int .i64 ck) from ⟨HBA.out.cell 0, HBA.out.cell 1, HKA.out.cell 4⟩)
  have hbq : b ≠ q := HM.out.ne_blk HK.out
  have HQ1 := Lib.hid (show q ≠ w.heap.size by omega)
  clear OW KW KWA MW KB hne hbA
  go_cut [] (fun wx => ∃ gg cap : Nat, Blk wx q 75 #[.func (.func 41) #[] #[], .slice (some ⟨gg, 0, none⟩) (n + 1) cap, .map (some b), .int .i64 nx, .int .i64 ck] ∧ wx.ownsRow 0 77 4 (.slice (some ⟨gg, 0, none⟩) (n + 1) cap) (n + 1) (ents l ++ Ent.cells ⟨x0, x1, nx, ck⟩) ∧ MapI wx b nx f ∧
    ((Value.slice A n c).ownBlock = some gg ∨ w.heap.size < gg) ∧ gg ≠ q ∧ Touch F w wx)
  case first =>
    simp only [ldH_eq]
    go_region_held3 (fun w' => w'.cell? ⟨w.heap.size, 0, none⟩ = some (.int .i64 x0) ∧ w'.cell? ⟨w.heap.size, 1, none⟩ = some (.int .i64 x1) ∧ w'.cell? ⟨q, 4, none⟩ = some (.int .i64 ck))
      (first | with_reducible exact HS0.out | with_reducible exact HS1.out | with_reducible exact HS2.out | with_reducible exact HS3.out)
      (first | (refine step_append_lies _ (by rfl) _ _ 73 (by rfl) 0 77 i0 (.agg #[.int .i64 0, .int .i64 0, .int .i64 0, .int .i64 0]) 4 32 Try.underlying73 hi0 hz0 hz1 hz2 rfl (by decide) (.slice A n c) n (ents l) (by rfl) HOA.out ⟨w.heap.size + 1, 0, none⟩ 1 1 (Ent.cells ⟨x0, x1, nx, ck⟩) (by rfl) (by rfl) NEWS.out (by simp [Ent.cells, Value.oneCell']) (by omega) (by unfold maxLen; omega) (by omega) (Nat.zero_le _) (W.heap.size + 1) HSA.out ?_; intro gg cap w1 hown1 hgrow hat hlt1; have K1 := HKA.out.grown hgrow NE'.out; have p1 := K1.cell 1; have z1 := K1.frozen 1; have B1 := HBA.out.grown hgrow NX'.out; have HS2 := Lib.hid (show w1.cell? ⟨w.heap.size, 0, none⟩ = some (.int .i64 x0) ∧ w1.cell? ⟨w.heap.size, 1, none⟩ = some (.int .i64 x1) ∧ w1.cell? ⟨q, 4, none⟩ = some (.int .i64 ck) from ⟨B1.cell 0, B1.cell 1, K1.cell 4⟩); have K1s := push_set (gg := gg) (n := n) (cap := cap) K1; have HS3 := Lib.hid (show (w1.setCell ⟨q, 1, none⟩ (.slice (some ⟨gg, 0, none⟩) (n + 1) cap)).cell? ⟨w.heap.size, 0, none⟩ = some (.int .i64 x0) ∧ (w1.setCell ⟨q, 1, none⟩ (.slice (some ⟨gg, 0, none⟩) (n + 1) cap)).cell? ⟨w.heap.size, 1, none⟩ = some (.int .i64 x1) ∧ (w1.setCell ⟨q, 1, none⟩ (.slice (some ⟨gg, 0, none⟩) (n + 1) cap)).cell? ⟨q, 4, none⟩ = some (.int .i64 ck) from ⟨(B1.far (p := ⟨q, 1, none⟩) (fun e => HQ1.out e.symm) _).cell 0, (B1.far (p := ⟨q, 1, none⟩) (fun e => HQ1.out e.symm) _).cell 1, K1s.cell 4⟩); simp at p1))
    all_goals
      go_wp2_with fail
      go_meet
      have hgq : gg ≠ q := by
        rcases hat with h | h
        · exact fun e => NE.out (e ▸ h)
        · intro e; omega
      refine ⟨gg, cap, K1s, ?_, ?_, ?_, hgq, ?_⟩
      · exact own_touch (F := fun k => k = q) hown1 ((Touch.refl (fun k => k = q) w1).setCell (p := ⟨q, 1, none⟩) (.inl rfl) _) (fun k hk e => hgq (by
          have : gg = k := by simpa [Value.ownBlock] using hk
          omega))
      · exact (HMA.out.keep (hgrow.block b HMA.out.lt NB'.out)).setCell hbq _
      · rcases hat with h | h
        · exact .inl h
        · right; omega
      · exact (HTA.out.grown hgrow (fun k hk => .inl (H3.out k (by rw [HN.out]; exact hk)))).setCell (.inl H1.out) _
  case rest =>
  obtain ⟨gg, cap, K2, O2, M2, hat, hgq, T2⟩ := hcut
  rename World => w2
  have hfn : f (nx : Int) = none := by
    cases hf : f (nx : Int) with
    | none => rfl
    | some i =>
      obtain ⟨e, he, hek⟩ := HA.out.fro _ _ hf
      have := HOK.out.hb e (HP.out.mem_iff.1 (List.mem_of_getElem? he))
      omega
  obtain ⟨w3, hr3, M3, X3⟩ := M2.put (wfN (n := nx) (by omega)) (v := n) (by omega) (by unfold maxLen; omega)
  rw [hfn] at M3
  have T3 := turned_touch X3
  have K3 := K2.touch T3 (fun (e : q = b) => hbq e.symm)
  have hbg : b ≠ gg := fun e => M2.ne_own O2 (by rw [e]; rfl)
  have O3 := own_touch O2 T3 (fun k hk e => by
    have : gg = k := by simpa [Value.ownBlock] using hk
    exact hbg (by omega))
  have T3' : Touch F w w3 := T2.trans T3 (fun k hk => .inl (hk ▸ H2.out))
  have j2 := K2.cell 2
  have s3 := K3.cell 3
  have s4 := K3.cell 4
  have zz3 := K3.frozen 3
  have zz4 := K3.frozen 4
  simp at j2 s3 s4
  have HM3 := Lib.hid M3
  have HK3 := Lib.hid K3
  have HO3 := Lib.hid O3
  have HTT := Lib.hid T3'
  have HAT := Lib.hid hat
  have HHT := Lib.hid hgq
  have HBG := Lib.hid hbg
  have HBQ := Lib.hid hbq
  clear K2 M2 O2 T2 hfn X3 M3 T3 K3 O3 T3' hat hgq hbg hbq hbW
  go_upto_region 4 with fail
  have u1 : IntKind.i64.wrap ((nx : Int) + 1) = (nx : Int) + 1 := IntWalk.i64_in _ (by omega)
  have u2 : IntKind.i64.wrap ((ck : Int) + 1) = (ck : Int) + 1 := IntWalk.i64_in _ (by omega)
  go_cut [] (fun wx => Blk wx q 75 #[.func (.func 41) #[] #[], .slice (some ⟨gg, 0, none⟩) (n + 1) cap, .map (some b), .int .i64 ((nx : Int) + 1), .int .i64 ((ck : Int) + 1)] ∧ Touch (fun k => k = q) w3 wx)
  case first =>
    simp only [ldI_eq]
    go_region_held3 (fun _ => True) (trivial) (fail)
    all_goals
      go_wp2_with fail
      go_meet
      exact set_next HK3.out
  case rest =>
    obtain ⟨K5, T5⟩ := hcut
    rename World => w5
    have hql5 := T5.size
    have M5 : MapI w5 b (nx + 1) (fput f nx n) := HM3.out.keep (T5.block b HM3.out.lt HBQ.out)
    have O5 := own_touch HO3.out T5 (fun k hk e => by
      have : gg = k := by simpa [Value.ownBlock] using hk
      exact HHT.out (by omega))
    have e1 : ents l ++ Ent.cells ⟨x0, x1, nx, ck⟩ = ents (l ++ [(⟨x0, x1, nx, ck⟩ : Ent)]) := by rw [ents_append]; simp [ents]
    have e2 : n + 1 = (l ++ [(⟨x0, x1, nx, ck⟩ : Ent)]).length := by rw [List.length_append, HN.out]; rfl
    rw [e1, e2] at O5
    rw [e2] at K5
    have hnl : n < (l ++ [(⟨x0, x1, nx, ck⟩ : Ent)]).length := by omega
    have hAp : Agree (l ++ [(⟨x0, x1, nx, ck⟩ : Ent)]) (fput f nx n) := push_agree (e := (⟨x0, x1, nx, ck⟩ : Ent)) HA.out HN.out (fun e he => by have := HOK.out.hb e (HP.out.mem_iff.1 he); omega) rfl
    have hpu := HH.out.push (⟨x0, x1, nx, ck⟩ : Ent)
    rw [HN.out] at hpu
    have HPU := Lib.hid hpu
    have HOKN := Lib.hid (HOK.out.push hnx hck (e := (⟨x0, x1, nx, ck⟩ : Ent)) rfl rfl)
    have hbound : HB (l ++ [(⟨x0, x1, nx, ck⟩ : Ent)]) := by
      intro e he
      rcases List.mem_append.1 he with h | h
      · have := HOK.out.hb e (HP.out.mem_iff.1 h); omega
      · simp at h; subst h; show nx ≤ _; omega
    have HHB := Lib.hid hbound
    have HAp := Lib.hid hAp
    have HQ5 := Lib.hid (show QR w5 q gg cap b (l ++ [(⟨x0, x1, nx, ck⟩ : Ent)]) (nx + 1) (ck + 1) (fput f nx n) from ⟨K5, O5, M5⟩)
    clear K5 O5 M5 e1 e2 hAp hpu hbound s3 s4 zz3 zz4
    go_wp2_with fail
    refine (up_any w5 q gg cap b (nx + 1) (ck + 1) (l ++ [(⟨x0, x1, nx, ck⟩ : Ent)]) _ n hnl HQ5.out HAp.out (by omega) (by rw [List.length_append, HN.out]; show n + 1 ≤ _; omega) HHB.out HPU.out.1).mono ?_
    rintro e w6 ⟨v, l', f', i', rfl, HQ6, HA6, HP6, _, HD6, HK6, T6⟩
    go_wp2_with fail
    go_ret
    refine ⟨rfl, fun k => F k ∨ k = gg, ⟨l', f', ⟨some ⟨gg, 0, none⟩, cap, b, HQ6.1, HQ6.2.1, HQ6.2.2, .inl H1.out, .inl H2.out, ?_⟩, HA6, HP6.trans (HP.out.append_right _), HD6.heap (HK6 HPU.out.2), HOKN.out⟩, ?_, ?_⟩
    · intro k hk
      right
      have : gg = k := by simpa [Value.ownBlock] using hk
      exact this.symm
    · refine (HTT.out.trans T5 (fun k hk => .inl (hk ▸ H1.out))).trans T6 (fun k hk => ?_)
      rcases hk with hk | hk
      · rcases HAT.out with h | h
        · exact .inl (H3.out k (by rw [HN.out, hk]; exact h))
        · exact .inr (by omega)
      · exact .inl (hk ▸ H2.out)
    · intro k hk
      rcases hk with hk | hk
      · exact .inl hk
      · rcases HAT.out with h | h
        · exact .inl (H3.out k (by rw [HN.out, hk]; exact h))
        · exact .inr (by omega)
end Go.Proofs.Ytbalhkbpmahkgaa.Oq

namespace Go.Proofs.Ytbalhkbpmahkgaa.Oq
open Go.RowKit

theorem wpList_drop {ops : Array Oper} {rest : List Oper} {o : Oper} {a : Act} {Q : Exit → Act → World → Prop} {w : World} (hg : o.guard = none) (m x : Operand)
    (hop : o.op = Op.call { callee := Callee.builtin Builtin.delete, args := #[m, x], argTypes := #[72, 3] }) {b n : Nat} {f : Int → Option Nat} {k : Int} (hm : a.eval m = .map (some b)) (hx : a.eval x = .int .i64 k)
    (M : MapI w b n f) (hk : (Lit.int .i64 k).wf = true) (h : ∀ w', MapI w' b n (fdel f k) → w.mapTurned w' b → wpList Try.prog ops Q rest (a.put o.dst (.tuple #[])) w') : wpList Try.prog ops Q (o :: rest) a w := by
  refine wpList_plain hg fun K' hK' => ?_
  obtain ⟨w', hrun, r1, r2⟩ := M.drop hk o.type
  unfold Oper.wp
  simp [execOp, hop, resolve, invoke, builtin, hm, hx, hrun, Result.andThen]
  exact hK' _ _ (h w' r1 r2)
theorem pop_set {w : World} {q g n c : Nat} {a0 a1 a2 a3 a4 : Value} (h : Blk w q 75 #[a0, a1, a2, a3, a4]) : Blk (w.setCell ⟨q, 1, none⟩ (.slice (some ⟨g, 0, none⟩) n c)) q 75 #[a0, .slice (some ⟨g, 0, none⟩) n c, a2, a3, a4] := by
  have := h.set_ 1 (.slice (some ⟨g, 0, none⟩) n c)
  simpa using this
theorem pop_agree {l : List Ent} {f : Int → Option Nat} {n : Nat} {m : Ent} (h : Agree l f) (hn : l.length = n + 1) (hm : l[n]? = some m) : Agree (l.take n) (fdel f m.h) := by
  have fm := h.to n m hm
  refine ⟨fun i e he => ?_, fun k i hk => ?_⟩
  · rw [List.getElem?_take] at he
    split at he
    · rename_i hi
      have fe := h.to i e he
      simp only [fdel]
      rw [if_neg (fun q => by rw [q, fm] at fe; injection fe with fe; omega)]
      exact fe
    · cases he
  · simp only [fdel] at hk
    split at hk
    · cases hk
    · rename_i hne
      obtain ⟨e, he, hek⟩ := h.fro k i hk
      refine ⟨e, ?_, hek⟩
      have hin : i ≠ n := fun q => by
        subst q
        rw [hm] at he
        injection he with he
        subst he
        exact hne hek.symm
      have := (List.getElem?_eq_some_iff.1 he).1
      rw [List.getElem?_take, if_pos (by omega)]
      exact he
theorem QOk.pop {L L' : List Ent} {m : Ent} {nx ck : Nat} (h : QOk L nx ck) (hp : L.Perm (m :: L')) : QOk L' nx ck := by
  refine ⟨fun e he => h.hb e (hp.mem_iff.2 (List.mem_cons_of_mem _ he)), fun e he => h.tb e (hp.mem_iff.2 (List.mem_cons_of_mem _ he)), ?_, ?_, h.nxb, h.ckb⟩
  · have := ((hp.map Ent.t).nodup_iff.1 h.td)
    rw [List.map_cons, List.nodup_cons] at this
    exact this.2
  · have h1 := hp.length_eq
    have h2 := h.len
    simp at h1
    omega

set_option maxRecDepth 100000 in
theorem pop_none (w : World) (F : Nat → Prop) (q nx ck : Nat) (h : PQ w F q [] nx ck) : Calls Try.prog 43 #[.pointer (some ⟨q, 0, none⟩)] w fun e w' => e = .returned (.tuple #[.agg #[.int .i64 0, .int .i64 0], .bool false]) ∧ Below w.heap.size w w' := by
  obtain ⟨l, f, ⟨A, c, b, K, _⟩, _, hp, _⟩ := h
  obtain rfl : l = [] := hp.eq_nil
  have k1 := (K.alloc (.cells #[.int .i64 0, .int .i64 0] 67)).cell 1
  simp at k1
  clear K
  go_enter Try.func43, Try.ntmps43
  go_wp2_with fail
  have C := (Blk.new' w 67 #[.int .i64 0, .int .i64 0] rfl).alloc (.cells #[.int .i64 0, .int .i64 0] 67)
  exact bodyPost_ret (results_elem rfl rfl (C.cell 0) (C.cell 1) rfl) rfl ⟨rfl, ((Below.refl _ _).alloc (Nat.le_refl _) _).alloc (by simp) _⟩

set_option maxRecDepth 100000 in
set_option maxHeartbeats 2000000 in
theorem pop_some (w : World) (F : Nat → Prop) (q nx ck : Nat) (L : List Ent) (h : PQ w F q L nx ck) (hL : L ≠ []) : Calls Try.prog 43 #[.pointer (some ⟨q, 0, none⟩)] w fun e w' =>
    ∃ m L', IsMin m L ∧ L.Perm (m :: L') ∧ e = .returned (.tuple #[.agg #[.int .i64 m.cost, .int .i64 m.node], .bool true]) ∧ QPost w F q L' nx ck w' := by
  obtain ⟨l, f, ⟨A, c, b, K, O, M, h1, h2, h3⟩, hA, hp, hH, hok⟩ := h
  have hl : 0 < l.length := by
    rw [hp.length_eq]
    exact List.length_pos_iff.2 hL
  obtain ⟨g, cur, rfl, hg⟩ := O.form hl
  obtain ⟨m, hm⟩ : ∃ m, l[0]? = some m := ⟨_, List.getElem?_eq_getElem hl⟩
  have HMin := Lib.hid (heap_min hH hp hm)
  have hll : l.length ≤ 100000000 := by have := hok.len; have := hok.nxb; have := hp.length_eq; omega
  have hnxb := hok.nxb
  obtain ⟨w0, hw0⟩ : ∃ w0, w.alloc (.cells #[.int .i64 0, .int .i64 0] 67) = w0 := ⟨_, rfl⟩
  have hb0 : Below w.heap.size w w0 := by rw [← hw0]; exact (Below.refl _ _).alloc (Nat.le_refl _) _
  have hs0 : w0.heap.size = w.heap.size + 1 := by rw [← hw0]; simp
  have R0 : Blk w0 w.heap.size 67 #[.int .i64 0, .int .i64 0] := by rw [← hw0]; exact Blk.new' w _ _ rfl
  have hqg : q ≠ g := Blk.ne_ K hg (by decide)
  have hql := K.lt
  have hgl := Blk.lt hg
  have hbl := M.lt
  have K0 := K.below hb0 hql
  have O0 : OwnE w0 (some ⟨g, 0, none⟩) c l := own_below O hb0
  have M0 := M.keep (hb0.block b hbl)
  obtain ⟨e0, e1, e2, e3⟩ := O0.at_ hm
  simp only [Nat.zero_mul, Nat.zero_add] at e0 e1 e2 e3
  have k1 := K0.cell 1
  simp at k1
  obtain ⟨n, hn⟩ : ∃ n, l.length = n + 1 := ⟨l.length - 1, by omega⟩
  have hne : ((l.length : Int) == 0) = false := by rw [beq_eq_false_iff_ne]; omega
  have hne' : l ≠ [] := by intro e; rw [e] at hl; simp at hl
  have hii : (0 : Int) < (l.length : Int) := by omega
  have u1 : IntKind.i64.wrap ((l.length : Int) - 1) = (n : Int) := by rw [show (l.length : Int) - 1 = (n : Int) by omega]; exact IntWalk.i64_in _ (by omega)
  have HW0 := Lib.hid hw0
  have HK := Lib.hid K0
  have HO := Lib.hid O0
  have HMp := Lib.hid M0
  have HR := Lib.hid R0
  have HA := Lib.hid hA
  have HP := Lib.hid hp
  have HH := Lib.hid hH
  have HOK := Lib.hid hok
  have HM0 := Lib.hid hm
  have HN := Lib.hid hn
  have H1 := Lib.hid h1
  have H2 := Lib.hid h2
  have H3 := Lib.hid h3
  clear K O M h1 h2 h3 hA hp hH hok hm hg K0 O0 M0 R0 hw0 hn
  obtain ⟨m0, m1, mh, mt⟩ := m
  simp only at e0 e1 e2 e3
  go_enter Try.func43, Try.ntmps43
  have k1w := HK.out.cell 1
  rw [← HW0.out] at k1w
  simp at k1w
  go_upto_region 3 with fail
  rw [HW0.out]
  clear k1w
  have hql0 : q < w0.heap.size := by omega
  have hgl0 : g < w0.heap.size := by omega
  have h9 : ∀ w9, Below w0.heap.size w0 w9 → w9.cell? ⟨q, 1, none⟩ = some (.slice (some ⟨g, 0, none⟩) l.length c) ∧ w9.cell? ⟨g, 0, none⟩ = some (.int .i64 m0) ∧ w9.cell? ⟨g, 1, none⟩ = some (.int .i64 m1) ∧ w9.cell? ⟨g, 2, none⟩ = some (.int .i64 (mh : Nat)) ∧ w9.cell? ⟨g, 3, none⟩ = some (.int .i64 (mt : Nat)) ∧ Below w0.heap.size w0 w9 := fun w9 h => ⟨((bcell h).1 _ _ hql0).trans k1, ((bcell h).1 _ _ hgl0).trans e0, ((bcell h).1 _ _ hgl0).trans e1, ((bcell h).1 _ _ hgl0).trans e2, ((bcell h).1 _ _ hgl0).trans e3, h⟩
  have H9 := Lib.hid h9
  clear h9
  go_region_held3 (fun w' => w'.cell? ⟨q, 1, none⟩ = some (.slice (some ⟨g, 0, none⟩) l.length c) ∧ w'.cell? ⟨g, 0, none⟩ = some (.int .i64 m0) ∧ w'.cell? ⟨g, 1, none⟩ = some (.int .i64 m1) ∧ w'.cell? ⟨g, 2, none⟩ = some (.int .i64 (mh : Nat)) ∧ w'.cell? ⟨g, 3, none⟩ = some (.int .i64 (mt : Nat)) ∧ Below w0.heap.size w0 w')
    ((refine H9.out _ ?_; repeat (first | exact Below.refl _ _ | refine Below.drew ?_ | refine Below.alloc ?_ (by simp) _ | refine Below.setCell ?_ (by simp) _))) (fail)
  obtain ⟨w1, hw1⟩ : ∃ w1, (w0.alloc (.cells #[.int .i64 m0, .int .i64 m1, .int .i64 mh, .int .i64 mt] 77)).drew = w1 := ⟨_, rfl⟩
  rw [hw1]
  have hb1 : Below w0.heap.size w0 w1 := by rw [← hw1]; exact ((Below.refl _ _).alloc (Nat.le_refl _) _).drew
  have F1 : Blk w1 (w.heap.size + 1) 77 #[.int .i64 m0, .int .i64 m1, .int .i64 mh, .int .i64 mt] := by rw [← hw1, ← hs0]; exact (Blk.new' w0 _ _ rfl).drewN 1
  have R1 := HR.out.below hb1 HR.out.lt
  have K1 := HK.out.below hb1 hql0
  have O1 : OwnE w1 (some ⟨g, 0, none⟩) c l := own_below HO.out hb1
  have M1 := HMp.out.keep (hb1.block b HMp.out.lt)
  have T1 : Touch F w w1 := Touch.of_below (hb0.trans (hb1.mono (by omega)))
  obtain ⟨y, hy⟩ : ∃ y, l[n]? = some y := ⟨_, List.getElem?_eq_getElem (by have := HN.out; omega)⟩
  have HY := Lib.hid hy
  have HF1 := Lib.hid F1
  have HR1 := Lib.hid R1
  clear hw1 H9 e0 e1 e2 e3 k1 HK HO HMp HR hb0 hb1 HW0 F1 R1 hy u1 hii hne hne'
  have hmh : mh < nx := HOK.out.hb _ (HP.out.mem_iff.1 (List.mem_of_getElem? HM0.out))
  have hyh : y.h < nx := HOK.out.hb _ (HP.out.mem_iff.1 (List.mem_of_getElem? HY.out))
  go_wp2_with fail
  refine (swap_any w1 q g c b nx ck l f 0 n ⟨m0, m1, mh, mt⟩ y K1 O1 M1 HA.out HM0.out HY.out (by omega) (by omega) ⟨by show mh ≤ _; omega, by omega⟩).mono ?_
  rintro e w2 ⟨v, rfl, K2, O2, M2, T2⟩
  have hswl : (swp l 0 n).length = n + 1 := by rw [swp_length]; exact HN.out
  have hswm : (swp l 0 n)[n]? = some ⟨m0, m1, mh, mt⟩ := by rw [swp_at hl (by have := HN.out; omega), if_pos rfl]; exact HM0.out
  have hbq : b ≠ q := M1.ne_blk K1
  have hbg : b ≠ g := fun e => M1.ne_own O1 (by rw [e]; rfl)
  have hnr : ¬ (w.heap.size = g ∨ w.heap.size = b) := by omega
  have hnf : ¬ (w.heap.size + 1 = g ∨ w.heap.size + 1 = b) := by omega
  have R2 := HR1.out.touch T2 hnr
  have F2 := HF1.out.touch T2 hnf
  have T2' : Touch F w w2 := T1.trans T2 (fun k hk => .inl (by
    rcases hk with hk | hk
    · exact H3.out k (by rw [hk]; rfl)
    · exact hk ▸ H2.out))
  have A2 := swap_agree HA.out HM0.out HY.out
  have q1 := K2.cell 1
  have z1 := K2.frozen 1
  simp at q1
  rw [hswl] at q1
  have hn0 : (0 : Int) ≤ (n : Int) := by omega
  have hnc : (n : Int) ≤ (c : Int) := by
    obtain ⟨A', c', e, hnc, _⟩ := own_form O2
    injection e with _ _ e
    subst e
    rw [hswl] at hnc
    omega
  have hnc' : n ≤ c := by omega
  have HK2 := Lib.hid K2
  have HO2 := Lib.hid (O2.take (m := n) (by omega))
  have HM2 := Lib.hid M2
  have HR2 := Lib.hid R2
  have HF2 := Lib.hid F2
  have HT2 := Lib.hid T2'
  have HA2 := Lib.hid (pop_agree A2 hswl hswm)
  have HD2 := Lib.hid (HH.out.pop HN.out)
  clear K1 O1 M1 K2 O2 M2 T1 T2 T2' R2 F2 A2 HR1 HF1 HA hswm
  go_upto_region 6 with fail
  obtain ⟨w3, hw3⟩ : ∃ w3, w2.setCell ⟨q, 1, none⟩ (.slice (some ⟨g, 0, none⟩) n c) = w3 := ⟨_, rfl⟩
  rw [hw3]
  have hS3 : Touch (fun k => k = q) w2 w3 := by rw [← hw3]; exact (Touch.refl (fun k => k = q) w2).setCell (p := ⟨q, 1, none⟩) (.inl rfl) _
  have hln : ((swp l 0 n).take n).length = n := by rw [List.length_take, hswl]; omega
  have K3 : Blk w3 q 75 #[.func (.func 41) #[] #[], .slice (some ⟨g, 0, none⟩) ((swp l 0 n).take n).length c, .map (some b), .int .i64 nx, .int .i64 ck] := by
    rw [hln, ← hw3]
    exact pop_set HK2.out
  have O3 : OwnE w3 (some ⟨g, 0, none⟩) c ((swp l 0 n).take n) := own_touch HO2.out hS3 (fun k hk e => by
    have : g = k := by simpa [Value.ownBlock] using hk
    exact hqg (by omega))
  have M3 := HM2.out.keep (hS3.block b HM2.out.lt hbq)
  have R3 := HR2.out.touch hS3 (by omega)
  have F3 := HF2.out.touch hS3 (by omega)
  have j2 := K3.cell 2
  have j1 := F3.cell 2
  simp at j2 j1
  have HK3 := Lib.hid K3
  have HO3 := Lib.hid O3
  have HM3 := Lib.hid (show MapI w3.drew b nx _ from M3.drew)
  have HR3 := Lib.hid R3
  have HF3 := Lib.hid F3
  have HT3 := Lib.hid (HT2.out.trans hS3 (fun k hk => .inl (hk ▸ H1.out)))
  have HWF := Lib.hid (wfN (n := mh) (by omega))
  clear hw3 hS3 K3 O3 M3 R3 F3 HK2 HO2 HM2 HR2 HF2 HT2 q1 z1 hn0 hnc hnc' hnr hnf
  go_still_tail 6, (by kernel_rfl)
  change wpList _ _ _ _ _ w3.drew
  go_upto_region 7 with (first | (refine wpList_drop rfl _ _ rfl rfl rfl HM3.out HWF.out ?_; intro w4 M4 X4))
  have T4 : Touch (fun k => k = b) w3 w4 := (turned_touch X4).oundrew
  have K4 := HK3.out.touch T4 (fun (e : q = b) => hbq e.symm)
  have O4 : OwnE w4 (some ⟨g, 0, none⟩) c ((swp l 0 n).take n) := own_touch HO3.out T4 (fun k hk e => by
    have : g = k := by simpa [Value.ownBlock] using hk
    exact hbg (by omega))
  have R4 := HR3.out.touch T4 (by omega)
  have F4 := HF3.out.touch T4 (by omega)
  have HT4 := Lib.hid (HT3.out.trans T4 (fun k hk => .inl (hk ▸ H2.out)))
  have HB4 : HB ((swp l 0 n).take n) := fun e he => by
    have := HOK.out.hb e (HP.out.mem_iff.1 ((swp_perm 0 n).mem_iff.1 (List.mem_of_mem_take he)))
    omega
  have HQ4 := Lib.hid (show QR w4 q g c b ((swp l 0 n).take n) nx ck _ from ⟨K4, O4, M4⟩)
  have HR4 := Lib.hid R4
  have HF4 := Lib.hid F4
  clear X4 T4 K4 O4 M4 R4 F4 j2 j1 HK3 HO3 HM3 HR3 HF3 HT3
  go_wp2_with fail
  refine (down_any w4 q g c b nx ck ((swp l 0 n).take n) _ 0 ?_ HQ4.out HA2.out (by omega) (by rw [hln]; have := HN.out; omega) HB4 HD2.out).mono ?_
  · rcases Nat.eq_zero_or_pos n with e | e
    · right; subst e; exact ⟨rfl, List.take_zero⟩
    · left; rw [hln]; exact e
  rintro e w5 ⟨v5, l', f', rfl, HQ5, HA5, HP5, HH5, T5⟩
  have R5 := HR4.out.touch T5 (by omega)
  have F5 := HF4.out.touch T5 (by omega)
  have f50 := F5.cell 0
  have f51 := F5.cell 1
  simp at f50 f51
  have r50 := R5.cell 0
  have z50 := R5.frozen 0
  have r51 := R5.cell 1
  have z51 := R5.frozen 1
  simp at r50 r51
  have HQQ := Lib.hid HQ5
  have HRR := Lib.hid R5
  clear HQ5 F5 R5
  go_wp2_with fail
  have C : Blk ((w5.setCell ⟨w.heap.size, 0, none⟩ (.int .i64 m0)).setCell ⟨w.heap.size, 1, none⟩ (.int .i64 m1)) w.heap.size 67 #[.int .i64 m0, .int .i64 m1] := by
    have := ((HRR.out.set_ 0 (.int .i64 m0)).set_ 1 (.int .i64 m1))
    simpa using this
  have TS : Touch (fun k => k = w.heap.size) w5 ((w5.setCell ⟨w.heap.size, 0, none⟩ (.int .i64 m0)).setCell ⟨w.heap.size, 1, none⟩ (.int .i64 m1)) := (((Touch.refl (fun k => k = w.heap.size) w5).setCell (p := ⟨w.heap.size, 0, none⟩) (.inl rfl) (.int .i64 m0)).setCell (p := ⟨w.heap.size, 1, none⟩) (.inl rfl) (.int .i64 m1))
  have TT := (HT4.out.trans T5 (fun k hk => .inl (by
    rcases hk with hk | hk
    · exact H3.out k (by rw [hk]; rfl)
    · exact hk ▸ H2.out)))
  have TF : Touch F w ((w5.setCell ⟨w.heap.size, 0, none⟩ (.int .i64 m0)).setCell ⟨w.heap.size, 1, none⟩ (.int .i64 m1)) := TT.trans TS (fun k hk => .inr (by omega))
  refine bodyPost_ret (results_elem rfl rfl (C.cell 0) (C.cell 1) rfl) rfl ⟨⟨m0, m1, mh, mt⟩, l', HMin.out, HP.out.symm.trans ((swp_last HN.out HM0.out).trans (HP5.symm.cons _)), rfl, F, ⟨l', f', ?_, HA5, List.Perm.refl _, HH5, ?_⟩, TF, fun k hk => .inl hk⟩
  · exact ⟨some ⟨g, 0, none⟩, c, b, HQQ.out.1.touch TS (by omega), own_touch HQQ.out.2.1 TS (fun k hk e => by
      have : g = k := by simpa [Value.ownBlock] using hk
      omega), HQQ.out.2.2.keep (TS.block b HQQ.out.2.2.lt (by omega)), H1.out, H2.out, fun k hk => H3.out k (by rw [← hk]; rfl)⟩
  · exact HOK.out.pop (HP.out.symm.trans ((swp_last HN.out HM0.out).trans (HP5.symm.cons _)))
end Go.Proofs.Ytbalhkbpmahkgaa.Oq

namespace Go.Proofs.Ytbalhkbpmahkgaa.Oq
open Go.RowKit

theorem uniq_map {α β : Type} {f : α → β} {l : List α} (h : (l.map f).Nodup) {a b : α} (ha : a ∈ l) (hb : b ∈ l) (e : f a = f b) : a = b := by
  obtain ⟨i, hi⟩ := List.getElem?_of_mem ha
  obtain ⟨j, hj⟩ := List.getElem?_of_mem hb
  have a1 : (l.map f)[i]? = some (f a) := by rw [List.getElem?_map, hi]; rfl
  have a2 : (l.map f)[j]? = some (f a) := by rw [List.getElem?_map, hj, e]; rfl
  have hij := (List.getElem?_inj (List.getElem?_eq_some_iff.1 a1).1 h).1 (a1.trans a2.symm)
  subst hij
  rw [hi] at hj
  injection hj
theorem QOk.perm {L L' : List Ent} {nx ck : Nat} (h : QOk L nx ck) (hp : L.Perm L') : QOk L' nx ck :=
  ⟨fun e he => h.hb e (hp.mem_iff.2 he), fun e he => h.tb e (hp.mem_iff.2 he), (hp.map Ent.t).nodup_iff.1 h.td, by have := hp.length_eq; have := h.len; omega, h.nxb, h.ckb⟩
section
variable {w w' : World} {F G : Nat → Prop} {q nx ck base : Nat} {L L' : List Ent}
theorem PQ.perm (h : PQ w F q L nx ck) (hp : L.Perm L') : PQ w F q L' nx ck := by
  obtain ⟨l, f, h1, h2, h3, h4, h5⟩ := h
  exact ⟨l, f, h1, h2, h3.trans hp, h4, h5.perm hp⟩
theorem PQ.hd (h : PQ w F q L nx ck) : (L.map Ent.h).Nodup := by
  obtain ⟨l, f, h1, h2, h3, h4, h5⟩ := h
  refine (h3.map Ent.h).nodup_iff.1 ?_
  rw [List.nodup_iff_pairwise_ne, List.pairwise_iff_getElem]
  intro i j hi hj hij e
  simp at hi hj
  rw [List.getElem_map, List.getElem_map] at e
  have a1 := h2.to i _ (List.getElem?_eq_getElem hi)
  have a2 := h2.to j _ (List.getElem?_eq_getElem hj)
  rw [e, a2] at a1
  injection a1 with a1
  omega

/-- A queue whose blocks are just F, all of them from 'base' on. -/
def QB (w : World) (base q : Nat) (F : Nat → Prop) (L : List Ent) (nx ck : Nat) : Prop := PQ w F q L nx ck ∧ ∀ k, F k → base ≤ k ∧ k < w.heap.size
/-- What a call on a queue turns. -/
structure Step (base : Nat) (w : World) (F : Nat → Prop) (w' : World) (G : Nat → Prop) : Prop where
  touch : Touch F w w'
  new : ∀ k, G k → F k ∨ w.heap.size ≤ k
  below : base ≤ w.heap.size → Below base w w'
theorem QB.below (h : QB w base q F L nx ck) (hb : Below w.heap.size w w') : QB w' base q F L nx ck := ⟨h.1.below hb, fun k hk => ⟨(h.2 k hk).1, Nat.lt_of_lt_of_le (h.2 k hk).2 hb.size⟩⟩
theorem QB.drewN (h : QB w base q F L nx ck) (n : Nat) : QB (w.drewN n) base q F L nx ck := h.below (below_drewN (Below.refl _ _) n)
theorem QB.perm (h : QB w base q F L nx ck) (hp : L.Perm L') : QB w base q F L' nx ck := ⟨h.1.perm hp, h.2⟩
theorem QB.ok (h : QB w base q F L nx ck) : QOk L nx ck := h.1.ok
/-- A block that is not the queue's is kept while others are written. -/
theorem QB.far (h : QB w base q F L nx ck) {N : Nat → Prop} (ht : Touch N w w') (hN : ∀ k, F k → ¬ N k) : QB w' base q F L nx ck := ⟨h.1.touch ht hN, fun k hk => ⟨(h.2 k hk).1, Nat.lt_of_lt_of_le (h.2 k hk).2 ht.size⟩⟩
theorem QB.post {nx0 ck0 : Nat} {L0 : List Ent} (h : QB w base q F L0 nx0 ck0) (hp : QPost w F q L nx ck w') : ∃ G, QB w' base q G L nx ck ∧ Step base w F w' G := by
  obtain ⟨G0, h1, h2, h3⟩ := hp
  obtain ⟨G, hG, h4⟩ := h1.precise
  refine ⟨G, ⟨h4, fun k hk => ⟨?_, (hG k hk).2⟩⟩, h2, fun k hk => h3 k (hG k hk).1, fun hb => h2.toBelow (fun k hk => (h.2 k hk).1) hb⟩
  rcases h3 k (hG k hk).1 with h5 | h5
  · exact (h.2 k h5).1
  · obtain ⟨e, he⟩ : ∃ e, h.1 = e := ⟨_, rfl⟩
    obtain ⟨l, f, ⟨A, c, b, K, O, M, f1, _⟩, _⟩ := h.1
    have := (h.2 _ f1).1
    have := K.lt
    omega
/-- A block that is not the queue's. -/
def PB (w : World) (F : Nat → Prop) (g : Nat) (t : TypeId) (cs : Array Value) : Prop := Blk w g t cs ∧ ¬ F g
theorem PB.step {g : Nat} {t : TypeId} {cs : Array Value} (h : PB w F g t cs) (hs : Step base w F w' G) : PB w' G g t cs :=
  ⟨h.1.touch hs.touch h.2, fun hg => by rcases hs.new g hg with h1 | h1; exact h.2 h1; have := h.1.lt; omega⟩
theorem PB.below {g : Nat} {t : TypeId} {cs : Array Value} (h : PB w F g t cs) (hb : Below w.heap.size w w') : PB w' F g t cs := ⟨h.1.below hb h.1.lt, h.2⟩
theorem QB.new (h : QB w base q F L nx ck) (t : TypeId) (cs : Array Value) : PB (w.alloc (.cells cs t)) F w.heap.size t cs := ⟨Blk.new' w _ _ rfl, fun hf => by have := (h.2 _ hf).2; omega⟩
theorem QB.alloc (h : QB w base q F L nx ck) (o : Obj) : QB (w.alloc o) base q F L nx ck := h.below ((Below.refl _ _).alloc (Nat.le_refl _) _)

theorem newq_any (w : World) : Calls Try.prog 40 #[.func (.func 41) #[] #[]] w fun e w' => e = .returned (.pointer (some ⟨w.heap.size + 1, 0, none⟩)) ∧ (∃ F, QB w' w.heap.size (w.heap.size + 1) F [] 0 0) ∧ Below w.heap.size w w' :=
  (new_any w).mono fun e w' ⟨h1, h2, h3⟩ => by
    obtain ⟨G, hG, h4⟩ := h2.precise
    exact ⟨h1, ⟨G, h4, hG⟩, h3⟩
theorem pushq_any (x0 x1 : Int) (h : QB w base q F L nx ck) (hnx : nx < 100000000) (hck : ck < 100000000) :
    Calls Try.prog 42 #[.pointer (some ⟨q, 0, none⟩), .agg #[.int .i64 x0, .int .i64 x1]] w fun e w' => e = .returned (.int .i64 nx) ∧ ∃ G, QB w' base q G (L ++ [⟨x0, x1, nx, ck⟩]) (nx + 1) (ck + 1) ∧ Step base w F w' G :=
  (push_any w F q nx ck L x0 x1 h.1 hnx hck).mono fun _ _ ⟨h1, h2⟩ => ⟨h1, h.post h2⟩
theorem IsMin.le {m : Ent} (h : IsMin m L) (ht : (L.map Ent.t).Nodup) : ∀ x ∈ L, m.cost ≤ x.cost := fun x hx => by
  by_cases he : x.t = m.t
  · rw [uniq_map ht hx h.1 he]
    exact Int.le_refl _
  · have := bf_iff.1 (h.2 x hx he)
    omega
theorem popq_any (h : QB w base q F L nx ck) (hL : L ≠ []) :
    Calls Try.prog 43 #[.pointer (some ⟨q, 0, none⟩)] w fun e w' => ∃ (m : Ent) (L' : List Ent), L.Perm (m :: L') ∧ (∀ x ∈ L', m.cost ≤ x.cost) ∧ e = .returned (.tuple #[.agg #[.int .i64 m.cost, .int .i64 m.node], .bool true]) ∧ ∃ G, QB w' base q G L' nx ck ∧ Step base w F w' G :=
  (pop_some w F q nx ck L h.1 hL).mono fun _ _ ⟨m', L2, h1, h2, h3, h4⟩ => by
    obtain ⟨G, h5, h6⟩ := h.post h4
    exact ⟨m', L2, h2, fun x hx => h1.le h.ok.td x (h2.mem_iff.2 (by simp [hx])), h3, G, h5, h6⟩
theorem popq_none (h : QB w base q F [] nx ck) :
    Calls Try.prog 43 #[.pointer (some ⟨q, 0, none⟩)] w fun e w' => e = .returned (.tuple #[.agg #[.int .i64 0, .int .i64 0], .bool false]) ∧ Below w.heap.size w w' := pop_none w F q nx ck h.1
end
end Go.Proofs.Ytbalhkbpmahkgaa.Oq
