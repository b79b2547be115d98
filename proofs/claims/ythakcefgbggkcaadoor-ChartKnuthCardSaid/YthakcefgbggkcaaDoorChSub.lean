/- Parts of a row of cells; a chart has the right dimensions. -/
import Derived.Test.YthakcefgbggkcaaDoorChSame
import Derived.Test.YthakcefgbggkcaaDoorChCount
namespace Go.Proofs.YthakcefgbggkcaaDoor
open Go.RowKit

theorem Reads.sub {w : World} {B b off n : Nat} {cs : List Cl} (h : Reads w B 4 (some ⟨b, off, none⟩) n (cls cs)) (o k : Nat) (ho : o + k ≤ n) : Reads w B 4 (some ⟨b, off + o * 4, none⟩) k (cls ((cs.drop o).take k)) := by
  have hl := h.len_cls
  have hlen : ((cs.drop o).take k).length = k := by simp; omega
  refine ⟨by rw [cls_len, hlen], fun hk => ?_⟩
  obtain ⟨b', off', hA, hb, hc⟩ := h.2 (by omega)
  injection hA with hA
  injection hA with h1 h2
  subst h1 h2
  refine ⟨b, off + o * 4, rfl, hb, fun j u hu => ?_⟩
  have hj : j < k * 4 := by
    have := (List.getElem?_eq_some_iff.1 hu).1
    rw [cls_len, hlen] at this
    exact this
  rw [cls_take, cls_drop, List.getElem?_take, if_pos hj, List.getElem?_drop] at hu
  have := hc (o * 4 + j) u hu
  rw [← Nat.add_assoc] at this
  exact this
theorem sub_eq {cs own : List Cl} {o k : Nat} (hl : own.length = k) (h : ∀ j < k, cs[o + j]? = own[j]?) : (cs.drop o).take k = own := by
  apply List.ext_getElem?
  intro i
  rw [List.getElem?_take]
  by_cases hi : i < k
  · rw [if_pos hi, List.getElem?_drop, h i hi]
  · rw [if_neg hi, List.getElem?_eq_none (by omega)]
set_option maxRecDepth 100000 in
set_option maxHeartbeats 4000000 in
theorem spanned_any (w : World) (T st : Int) (N S nR rc nL lc nf fc nc cc : Nat) (RA LA FA CA : Option Addr) (hN : N ≤ 1000) (hS : S ≤ 200) (hnc : nc = tri S S * N) :
    Calls Tryd.prog 18 #[.agg #[.int .i64 T, .int .i64 N, .int .i64 st, .slice RA nR rc], .agg #[.int .i64 S, .slice LA nL lc, .slice FA nf fc], .agg #[.int .i64 N, .int .i64 S, .slice CA nc cc]] w fun e w' => e = .returned (.bool true) ∧ Below w.heap.size w w' := by
  obtain ⟨W, hW⟩ : ∃ W, ((w.alloc (.cells #[.int .i64 T, .int .i64 N, .int .i64 st, .slice RA nR rc] 24)).alloc (.cells #[.int .i64 S, .slice LA nL lc, .slice FA nf fc] 28)).alloc (.cells #[.int .i64 N, .int .i64 S, .slice CA nc cc] 34) = W := ⟨_, rfl⟩
  obtain ⟨bn, hbn⟩ : ∃ bn, w.heap.size = bn := ⟨_, rfl⟩
  have K1 : Blk W bn 24 #[.int .i64 T, .int .i64 N, .int .i64 st, .slice RA nR rc] := by rw [← hW]; exact ((Blk.new' _ _ _ hbn).alloc _).alloc _
  have K2 : Blk W (bn + 1) 28 #[.int .i64 S, .slice LA nL lc, .slice FA nf fc] := by rw [← hW]; exact (Blk.new' _ _ _ (by simp; omega)).alloc _
  have K3 : Blk W (bn + 1 + 1) 34 #[.int .i64 N, .int .i64 S, .slice CA nc cc] := by rw [← hW]; exact Blk.new' _ _ _ (by simp; omega)
  have hBW : Below w.heap.size w W := by rw [← hW]; exact (((Below.refl _ _).alloc (by omega) _).alloc (by simp) _).alloc (by simp; omega) _
  have HCN : Hid (∀ u : Ext W, Calls Tryd.prog 34 #[.int .i64 N, .int .i64 S] u.W fun e w' => e = .returned (.int .i64 nc) ∧ Below u.W.heap.size u.W w') := fun u => by
    rw [hnc]
    exact count_any u.W N S hN hS
  have n1 := K1.cell 1
  have l0 := K2.cell 0
  have c0 := K3.cell 0
  have c1 := K3.cell 1
  have c2 := K3.cell 2
  simp at n1 l0 c0 c1 c2
  have HBW := Lib.hid hBW
  have HW := Lib.hid hW
  clear hW hBW K1 K2 K3 hnc
  go_enter Tryd.func18, Tryd.ntmps18
  go_upto_region 1 with fail
  try rw [hbn]
  rw [HW.out]
  have x0 := ext_cell n1
  have x1 := ext_cell l0
  have x2 := ext_cell c0
  have x3 := ext_cell c1
  have x4 := ext_cell c2
  refine wp_region_ext (by kernel_rfl) (by kernel_rfl) ?_
  repeat (go_big_quiet_step (exact calls_ext (HCN.out _)))
  refine wpQuiet_nil ?_
  rintro _ ⟨u, rfl⟩
  have HBU : Hid (Below w.heap.size w u.W) := HBW.out.trans (u.h.mono HBW.out.size)
  clear x0 x1 x2 x3 x4 HCN
  go_wp2_with fail
  go_ret
  exact ⟨rfl, HBU.out⟩
end Go.Proofs.YthakcefgbggkcaaDoor
