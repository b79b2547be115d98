/- Which of two entries comes first. -/
import Derived.Test.YtkeiakmfnammbaaKqQ
import Derived.Test.YtkeiakmfnammbaaKqLess
import Derived.Test.YtkeiakmfnammbaaExt
import Derived.Deep.DeepCutAuto
namespace Go.Proofs.Ytkeiakmfnammbaa
open Go.RowKit

set_option maxRecDepth 100000 in
set_option maxHeartbeats 2000000 in
theorem before_any (w : World) (q g c nx ck : Nat) (mv : Value) (l : List Ent) (i j : Nat) (x y : Ent) (K : Blk w q 75 #[.func (.func 30) #[] #[], .slice (some ⟨g, 0, none⟩) l.length c, mv, .int .i64 nx, .int .i64 ck])
    (O : OwnE w (some ⟨g, 0, none⟩) c l) (hx : l[i]? = some x) (hy : l[j]? = some y) :
    Calls Try.prog 41 #[.pointer (some ⟨q, 0, none⟩), .int .i64 i, .int .i64 j] w fun e w' => e = .returned (.bool (bf x y)) ∧ Below w.heap.size w w' := by
  have hil := (List.getElem?_eq_some_iff.1 hx).1
  have hjl := (List.getElem?_eq_some_iff.1 hy).1
  have q1 := K.cell 1
  simp at q1
  have hql := K.lt
  obtain ⟨x0, x1, x2, x3, x4⟩ := O.at_ hx
  obtain ⟨y0, y1, y2, y3, y4⟩ := O.at_ hy
  have hgl : g < w.heap.size := World.block_lt_of_cell? w _ x0
  have K0 := Lib.hid K
  obtain ⟨r, hr⟩ : ∃ r, r = bf x y := ⟨_, rfl⟩
  rw [← hr]
  have HR := Lib.hid hr
  clear O hx hy hr
  go_enter Try.func41, Try.ntmps41
  go_upto_region 1 with fail
  go_cut [7, 8] (fun a7 a8 wx => ∃ g7 g8 : Nat, a7 = .pointer (some ⟨g7, 0, none⟩) ∧ a8 = .pointer (some ⟨g8, 0, none⟩) ∧ Blk wx g7 79 #[.int .i64 x.node, .int .i64 x.cost, .int .i64 x.size, .int .i64 (x.h : Nat), .int .i64 (x.t : Nat)] ∧ Blk wx g8 79 #[.int .i64 y.node, .int .i64 y.cost, .int .i64 y.size, .int .i64 (y.h : Nat), .int .i64 (y.t : Nat)] ∧ Below w.heap.size w wx)
  case first =>
    have h9 : ∀ w9, Below w.heap.size w w9 → w9.cell? ⟨q, 1, none⟩ = some (.slice (some ⟨g, 0, none⟩) l.length c) ∧ w9.cell? ⟨g, i * 5, none⟩ = some (.int .i64 x.node) ∧ w9.cell? ⟨g, i * 5 + 1, none⟩ = some (.int .i64 x.cost) ∧ w9.cell? ⟨g, i * 5 + 2, none⟩ = some (.int .i64 x.size) ∧ w9.cell? ⟨g, i * 5 + 3, none⟩ = some (.int .i64 (x.h : Nat)) ∧ w9.cell? ⟨g, i * 5 + 4, none⟩ = some (.int .i64 (x.t : Nat)) ∧ w9.cell? ⟨g, j * 5, none⟩ = some (.int .i64 y.node) ∧ w9.cell? ⟨g, j * 5 + 1, none⟩ = some (.int .i64 y.cost) ∧ w9.cell? ⟨g, j * 5 + 2, none⟩ = some (.int .i64 y.size) ∧ w9.cell? ⟨g, j * 5 + 3, none⟩ = some (.int .i64 (y.h : Nat)) ∧ w9.cell? ⟨g, j * 5 + 4, none⟩ = some (.int .i64 (y.t : Nat)) ∧ Below w.heap.size w w9 := fun w9 h => ⟨((bcell h).1 _ _ hql).trans q1, ((bcell h).1 _ _ hgl).trans x0, ((bcell h).1 _ _ hgl).trans x1, ((bcell h).1 _ _ hgl).trans x2, ((bcell h).1 _ _ hgl).trans x3, ((bcell h).1 _ _ hgl).trans x4, ((bcell h).1 _ _ hgl).trans y0, ((bcell h).1 _ _ hgl).trans y1, ((bcell h).1 _ _ hgl).trans y2, ((bcell h).1 _ _ hgl).trans y3, ((bcell h).1 _ _ hgl).trans y4, h⟩
    have H9 := Lib.hid h9
    clear h9
    go_region_held3 (fun w' => w'.cell? ⟨q, 1, none⟩ = some (.slice (some ⟨g, 0, none⟩) l.length c) ∧ w'.cell? ⟨g, i * 5, none⟩ = some (.int .i64 x.node) ∧ w'.cell? ⟨g, i * 5 + 1, none⟩ = some (.int .i64 x.cost) ∧ w'.cell? ⟨g, i * 5 + 2, none⟩ = some (.int .i64 x.size) ∧ w'.cell? ⟨g, i * 5 + 3, none⟩ = some (.int .i64 (x.h : Nat)) ∧ w'.cell? ⟨g, i * 5 + 4, none⟩ = some (.int .i64 (x.t : Nat)) ∧ w'.cell? ⟨g, j * 5, none⟩ = some (.int .i64 y.node) ∧ w'.cell? ⟨g, j * 5 + 1, none⟩ = some (.int .i64 y.cost) ∧ w'.cell? ⟨g, j * 5 + 2, none⟩ = some (.int .i64 y.size) ∧ w'.cell? ⟨g, j * 5 + 3, none⟩ = some (.int .i64 (y.h : Nat)) ∧ w'.cell? ⟨g, j * 5 + 4, none⟩ = some (.int .i64 (y.t : Nat)) ∧ Below w.heap.size w w')
      ((refine H9.out _ ?_; repeat (first | exact Below.refl _ _ | refine Below.drew ?_ | refine Below.alloc ?_ (by simp) _ | refine Below.setCell ?_ (by simp) _))) (fail)
    all_goals
      go_wp2_with fail
      go_meet
      first
        | exact ⟨_, _, rfl, rfl, (Blk.new' w _ _ rfl).alloc _, Blk.new' (w.alloc _) _ _ (by simp), (((Below.refl _ _).alloc (Nat.le_refl _) _).alloc (by simp) _).drew⟩
        | exact ⟨_, _, rfl, rfl, Blk.new' (w.alloc _) _ _ (by simp), (Blk.new' w _ _ rfl).alloc _, (((Below.refl _ _).alloc (Nat.le_refl _) _).alloc (by simp) _).drew⟩
  case rest =>
    obtain ⟨g7, g8, rfl, rfl, K7, K8, hb⟩ := hcut
    rename World => w1
    have K1 := K0.out.below hb hql
    clear x0 x1 x2 x3 x4 y0 y1 y2 y3 y4 q1
    obtain ⟨a0, a1, a2, xh, xt⟩ := x
    obtain ⟨b0, b1, b2, yh, yt⟩ := y
    have q0 := ext_cell (K1.cell 0)
    have f0 := ext_cell (K7.cell 0)
    have f1 := ext_cell (K7.cell 1)
    have f2 := ext_cell (K7.cell 2)
    have f3 := ext_cell (K7.cell 3)
    have f4 := ext_cell (K7.cell 4)
    have e0 := ext_cell (K8.cell 0)
    have e1 := ext_cell (K8.cell 1)
    have e2 := ext_cell (K8.cell 2)
    have e3 := ext_cell (K8.cell 3)
    have e4 := ext_cell (K8.cell 4)
    clear K7 K8 K1 K0 K
    have L1 := fun w => less_any ⟨a0, a1, a2, xh, xt⟩ ⟨b0, b1, b2, yh, yt⟩ w
    have L2 := fun w => less_any ⟨b0, b1, b2, yh, yt⟩ ⟨a0, a1, a2, xh, xt⟩ w
    have HL1 := Lib.hid L1
    have HL2 := Lib.hid L2
    clear L1 L2
    cases h1 : lt ⟨a0, a1, a2, xh, xt⟩ ⟨b0, b1, b2, yh, yt⟩ with
    | true =>
      rw [h1] at HL1
      go_wp2_with fail
      refine wp_region_ext (by kernel_rfl) (by kernel_rfl) ?_
      repeat (go_big_quiet_step (exact calls_ext (HL1.out _)))
      refine wpQuiet_nil ?_
      rintro _ ⟨u, rfl⟩
      go_wp2_with fail
      go_ret
      exact ⟨ret_bool (by rw [HR.out]; simp [bf, h1]), hb.trans (u.h.mono hb.size)⟩
    | false =>
      rw [h1] at HL1
      go_wp2_with fail
      refine wp_region_ext (by kernel_rfl) (by kernel_rfl) ?_
      repeat (go_big_quiet_step (exact calls_ext (HL1.out _)))
      refine wpQuiet_nil ?_
      rintro _ ⟨u, rfl⟩
      have hbu := hb.trans (u.h.mono hb.size)
      have q0' := ext_cell (q0 u)
      have f0' := ext_cell (f0 u)
      have f1' := ext_cell (f1 u)
      have f2' := ext_cell (f2 u)
      have f3' := ext_cell (f3 u)
      have f4' := ext_cell (f4 u)
      have e0' := ext_cell (e0 u)
      have e1' := ext_cell (e1 u)
      have e2' := ext_cell (e2 u)
      have e3' := ext_cell (e3 u)
      have e4' := ext_cell (e4 u)
      obtain ⟨w2, hw2⟩ : ∃ w2, u.W = w2 := ⟨_, rfl⟩
      clear q0 f0 e0 f1 e1 f2 e2 f3 e3 f4 e4
      cases h2 : lt ⟨b0, b1, b2, yh, yt⟩ ⟨a0, a1, a2, xh, xt⟩ with
      | true =>
        rw [h2] at HL2
        go_wp2_with fail
        refine wp_region_ext (by kernel_rfl) (by kernel_rfl) ?_
        repeat (go_big_quiet_step (exact calls_ext (HL2.out _)))
        refine wpQuiet_nil ?_
        rintro _ ⟨u2, rfl⟩
        go_wp2_with fail
        go_ret
        exact ⟨ret_bool (by rw [HR.out]; simp [bf, h1, h2]), hbu.trans (u2.h.mono hbu.size)⟩
      | false =>
        rw [h2] at HL2
        go_wp2_with fail
        refine wp_region_ext (by kernel_rfl) (by kernel_rfl) ?_
        repeat (go_big_quiet_step (exact calls_ext (HL2.out _)))
        refine wpQuiet_nil ?_
        rintro _ ⟨u2, rfl⟩
        go_wp2_with fail
        go_ret
        exact ⟨ret_bool (by rw [HR.out]; simp [bf, h1, h2]), hbu.trans (u2.h.mono hbu.size)⟩
end Go.Proofs.Ytkeiakmfnammbaa
