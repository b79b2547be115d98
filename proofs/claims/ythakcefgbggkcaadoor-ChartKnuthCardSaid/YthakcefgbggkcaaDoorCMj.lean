/- The reference's Index, none, At. -/
import Derived.Test.YthakcefgbggkcaaDoorCMa
import Derived.Test.YthakcefgbggkcaaDoorCMf
namespace Go.Proofs.YthakcefgbggkcaaDoor
open Go.RowKit

theorem tri_bound {S s : Nat} (hS : S ≤ 10000) (hs : s ≤ S) : tri S s ≤ 100000000 := by
  have h1 := tri_le S s
  have h2 : s * S ≤ 10000 * 10000 := Nat.mul_le_mul (by omega) hS
  omega
set_option maxRecDepth 100000 in
set_option maxHeartbeats 2000000 in
theorem rindex_any (N S f t : Nat) (w : World) (hft : f ≤ t) (htS : t < S) (hN : N ≤ 10000) (hS : S ≤ 10000) :
    Calls Tryd.prog 20 #[.int .i64 N, .int .i64 S, .int .i64 f, .int .i64 t] w fun e w' => e = .returned (.int .i64 (cix S f t * N : Nat)) ∧ Below w.heap.size w w' := by
  have htb := tri_bound hS (show f ≤ S by omega)
  obtain ⟨T, hT⟩ : ∃ T, tri S f = T := ⟨_, rfl⟩
  rw [hT] at htb
  have hcx : cix S f t = T + (t - f) := by unfold cix; rw [hT]
  have hcb : (T + (t - f)) * N ≤ 100010000 * 10000 := Nat.mul_le_mul (by omega) hN
  have hr : ((T : Int) + (t : Int) - (f : Int)) * (N : Int) = ((cix S f t * N : Nat) : Int) := by
    rw [hcx]; push_cast; rw [show ((t - f : Nat) : Int) = (t : Int) - f by omega, Int.add_sub_assoc]
  have u3 : IntKind.i64.wrap (((T : Int) + (t : Int) - (f : Int)) * (N : Int)) = ((cix S f t * N : Nat) : Int) := by rw [hr]; exact IntWalk.i64_in _ (by rw [hcx]; omega)
  obtain ⟨r, hrr⟩ : ∃ r, cix S f t * N = r := ⟨_, rfl⟩
  rw [hrr] at u3 ⊢
  have u7 : IntKind.i64.wrap ((T : Int) + (t : Int)) = (T : Int) + (t : Int) := IntWalk.i64_in _ (by omega)
  have u8 : IntKind.i64.wrap ((T : Int) + (t : Int) - (f : Int)) = (T : Int) + (t : Int) - (f : Int) := IntWalk.i64_in _ (by omega)
  have HT := Lib.hid hT
  clear hT hcx hcb hr hrr
  go_enter Tryd.func20, Tryd.ntmps20
  go_wp2_with fail
  go_loopw [9, 10] (fun a x wr => ∃ s : Nat, s ≤ f ∧ x = .int .i64 s ∧ a = .int .i64 (tri S s : Nat) ∧ Hid (Below w.heap.size w wr)) (fun _ x _ => f - (intOf x).toNat)
  case atStart => exact ⟨0, Nat.zero_le _, rfl, rfl, Below.refl _ _⟩
  case round =>
    obtain ⟨s, hs, rfl, rfl, HB⟩ := hrel
    by_cases hlt : s < f
    case pos =>
      have hltD : decide (s < f) = true := by simp [hlt]
      have hb := tri_bound hS (show s ≤ S by omega)
      have hnx : tri S (s + 1) = tri S s + (S - s) := rfl
      obtain ⟨x, hx⟩ : ∃ x, tri S s = x := ⟨_, rfl⟩
      rw [hx] at hb hnx ⊢
      have e : ((tri S (s + 1) : Nat) : Int) = (x : Int) + (S : Int) - (s : Int) := by rw [hnx]; omega
      have v1 : IntKind.i64.wrap ((x : Int) + (S : Int)) = (x : Int) + (S : Int) := IntWalk.i64_in _ (by omega)
      have v2 : IntKind.i64.wrap ((x : Int) + (S : Int) - (s : Int)) = (x : Int) + (S : Int) - (s : Int) := IntWalk.i64_in _ (by omega)
      clear hx hnx u3 u7 u8
      go_wp2_with fail
      go_roundw
      case rel => exact ⟨s + 1, by omega, by go_num, by rw [e], HB⟩
      case measure => simp [intOf]; omega
    case neg =>
      have hltD : decide (s < f) = false := by simp [hlt]
      obtain rfl : s = f := by omega
      rw [HT.out]
      go_wp2_with fail
      go_ret
      exact ⟨rfl, HB.out⟩
theorem rnone_any (w : World) : Calls Tryd.prog 41 #[] w fun e w' => e = .returned cnone.val ∧ Below w.heap.size w w' := by
  have hb : Below w.heap.size w (w.alloc (.cells #[.int .i64 1099511627776, .int .i64 0, .int .i64 (-1), .int .i64 0] 47)) := (Below.refl _ _).alloc (Nat.le_refl _) _
  have K := Blk.new' w 47 #[.int .i64 1099511627776, .int .i64 0, .int .i64 (-1), .int .i64 0] rfl
  go_enter Tryd.func41, Tryd.ntmps41
  go_wp2_with fail
  exact bodyPost_ret (results_cl rfl rfl (K.cell 0) (K.cell 1) (K.cell 2) (K.cell 3)) rfl ⟨rfl, hb⟩
set_option maxRecDepth 100000 in
set_option maxHeartbeats 2000000 in
theorem rat_any (N S nc c B : Nat) (A : Option Addr) (cs : List Cl) (x : It) (w : World) (hl : Reads w B 4 A nc (cls cs)) (hB : B ≤ w.heap.size) (hN : N ≤ 10000) (hS : S ≤ 10000) (_hnc : nc ≤ 1000000000000) :
    Calls Tryd.prog 26 #[.agg #[.int .i64 N, .int .i64 S, .slice A nc c], .agg #[.int .i64 x.h, .int .i64 x.f, .int .i64 x.t]] w fun e w' => e = .returned (atC N S cs x).val ∧ Below w.heap.size w w' := by
  obtain ⟨W, hW⟩ : ∃ W, ((w.alloc (.cells #[.int .i64 N, .int .i64 S, .slice A nc c] 34)).alloc (.cells #[.int .i64 x.h, .int .i64 x.f, .int .i64 x.t] 61)).alloc (.cells #[.int .i64 0, .int .i64 0, .int .i64 0, .int .i64 0] 47) = W := ⟨_, rfl⟩
  have hsW : W.heap.size = w.heap.size + 3 := by rw [← hW]; simp
  have K2 : Blk W w.heap.size 34 #[.int .i64 N, .int .i64 S, .slice A nc c] := by rw [← hW]; exact ((Blk.new' _ _ _ rfl).alloc _).alloc _
  have K3 : Blk W (w.heap.size + 1) 61 #[.int .i64 x.h, .int .i64 x.f, .int .i64 x.t] := by rw [← hW]; exact (Blk.new' _ _ _ (by simp)).alloc _
  have K4 : Blk W (w.heap.size + 2) 47 #[.int .i64 0, .int .i64 0, .int .i64 0, .int .i64 0] := by rw [← hW]; exact Blk.new' _ _ _ (by simp)
  have hb0 : Below w.heap.size w W := by rw [← hW]; exact (((Below.refl _ _).alloc (Nat.le_refl _) _).alloc (by simp) _).alloc (by simp; omega) _
  have hln := hl.len_cls
  have HL := Lib.hid ((hl.more hB).below hb0)
  have k20 := K2.cell 0
  have k21 := K2.cell 1
  have k22 := K2.cell 2
  have k30 := K3.cell 0
  have k31 := K3.cell 1
  have k32 := K3.cell 2
  have k40 := K4.cell 0
  have k41 := K4.cell 1
  have k42 := K4.cell 2
  have k43 := K4.cell 3
  have z0 := K4.frozen 0
  have z1 := K4.frozen 1
  have z2 := K4.frozen 2
  have z3 := K4.frozen 3
  simp at k20 k21 k22 k30 k31 k32 k40 k41 k42 k43
  obtain ⟨b2, hb2⟩ : ∃ b2, w.heap.size = b2 := ⟨_, rfl⟩
  have HWW := Lib.hid hW
  have HB0 := Lib.hid hb0
  have HHB := Lib.hid hb2
  have HLE := Lib.hid (show w.heap.size ≤ b2 + 2 by omega)
  have HBB : Hid (∀ a b c d : Value, Below b2 w ((((W.setCell ⟨b2 + 1 + 1, 0, none⟩ a).setCell ⟨b2 + 1 + 1, 1, none⟩ b).setCell ⟨b2 + 1 + 1, 2, none⟩ c).setCell ⟨b2 + 1 + 1, 3, none⟩ d)) := fun a b c d => by rw [← hb2]; exact at_below hb0 (by omega) a b c d
  rw [hb2] at K4
  have HK4 := Lib.hid K4
  have HN2 := Lib.hid (show True from trivial)
  clear hl hb0 hW K2 K3 K4
  rw [hb2] at k20 k21 k22 k30 k31 k32 k40 k41 k42 k43 z0 z1 z2 z3 hsW
  have HNO : Hid (∀ w9, Calls Tryd.prog 41 #[] w9 fun e w' => e = .returned (.agg #[.int .i64 1099511627776, .int .i64 0, .int .i64 (-1), .int .i64 0]) ∧ Below w9.heap.size w9 w') := fun w9 => rnone_any w9
  by_cases hin : (0 ≤ x.h ∧ x.h < N) ∧ 0 ≤ x.f ∧ x.f ≤ x.t ∧ x.t < S
  case neg =>
    have hres : atC N S cs x = cnone := if_neg hin
    have HRES := Lib.hid hres
    clear hres
    have hc : decide (x.h < 0) = true ∨ (decide (x.h < 0) = false ∧ decide ((N : Int) ≤ x.h) = true) ∨ (decide (x.h < 0) = false ∧ decide ((N : Int) ≤ x.h) = false ∧ decide (x.f < 0) = true) ∨
      (decide (x.h < 0) = false ∧ decide ((N : Int) ≤ x.h) = false ∧ decide (x.f < 0) = false ∧ decide (x.t < x.f) = true) ∨ (decide (x.h < 0) = false ∧ decide ((N : Int) ≤ x.h) = false ∧ decide (x.f < 0) = false ∧ decide (x.t < x.f) = false ∧ decide ((S : Int) ≤ x.t) = true) := by
      simp only [decide_eq_true_eq, decide_eq_false_iff_not]
      omega
    rcases hc with d1 | ⟨d1, d2⟩ | ⟨d1, d2, d3⟩ | ⟨d1, d2, d3, d4⟩ | ⟨d1, d2, d3, d4, d5⟩
    all_goals
      go_enter Tryd.func26, Tryd.ntmps26
      go_upto_region 1 with fail
      rw [HWW.out]
      go_wp2_with fail
      refine (HNO.out _).mono ?_
      rintro e w5 ⟨rfl, hb5⟩
      have HK5 := Lib.hid (HK4.out.below hb5 HK4.out.lt)
      have HB5 : Hid (Below w.heap.size w w5) := HB0.out.trans (hb5.mono HB0.out.size)
      have y0 := HK5.out.cell 0
      have y1 := HK5.out.cell 1
      have y2 := HK5.out.cell 2
      have y3 := HK5.out.cell 3
      have q0 := HK5.out.frozen 0
      have q1 := HK5.out.frozen 1
      have q2 := HK5.out.frozen 2
      have q3 := HK5.out.frozen 3
      simp at y0 y1 y2 y3
      clear hb5
      go_wp2_with fail
      have r1 := HK5.out.set4 (.int .i64 1099511627776) (.int .i64 0) (.int .i64 (-1)) (.int .i64 0)
      refine bodyPost_ret (results_cl rfl rfl (r1.cell 0) (r1.cell 1) (r1.cell 2) (r1.cell 3)) rfl ⟨by rw [HRES.out]; rfl, ?_⟩
      exact at_below HB5.out HLE.out _ _ _ _
  case pos =>
    obtain ⟨⟨h1, h2⟩, h3, h4, h5⟩ := hin
    obtain ⟨xh, xf, xt⟩ := x
    simp only at h1 h2 h3 h4 h5 k30 k31 k32 ⊢
    obtain ⟨h, rfl⟩ := Int.eq_ofNat_of_zero_le h1
    obtain ⟨f, rfl⟩ := Int.eq_ofNat_of_zero_le h3
    obtain ⟨t, rfl⟩ := Int.eq_ofNat_of_zero_le (show (0 : Int) ≤ xt by omega)
    have hft : f ≤ t := by omega
    have htS : t < S := by omega
    have hhN : h < N := by omega
    have hat : atC N S cs ⟨h, f, t⟩ = (cs[cix S f t * N + h]?).getD cnone := by
      unfold atC
      rw [if_pos ⟨⟨h1, h2⟩, h3, h4, h5⟩]
      simp
    have e1 : decide ((h : Int) < 0) = false := by simp
    have e2 : decide ((N : Int) ≤ (h : Int)) = false := by simp; omega
    have e3 : decide ((f : Int) < 0) = false := by simp
    have e4 : decide ((t : Int) < (f : Int)) = false := by simp; omega
    have e5 : decide ((S : Int) ≤ (t : Int)) = false := by simp; omega
    have e2' : decide (N ≤ h) = false := by simp; omega
    have e4' : decide (t < f) = false := by simp; omega
    have e5' : decide (S ≤ t) = false := by simp; omega
    have hcb : cix S f t * N + h ≤ 1100000000000 := by
      have := cix_lt hft htS
      have h1 := tri_le S S
      have h2 : S * S ≤ 10000 * 10000 := Nat.mul_le_mul hS hS
      have h3 : cix S f t * N ≤ 100000000 * 10000 := Nat.mul_le_mul (by omega) hN
      omega
    obtain ⟨P, hP⟩ : ∃ P, cix S f t * N = P := ⟨_, rfl⟩
    have HP := Lib.hid hP
    rw [hP] at hat hcb
    have HFT := Lib.hid (And.intro hft htS)
    have HAT := Lib.hid hat
    have HLN := Lib.hid hln
    clear hP hft htS hat h1 h2 h3 h4 h5 hhN hln
    have u1 : IntKind.i64.wrap ((P : Int) + (h : Int)) = (P : Int) + (h : Int) := IntWalk.i64_in _ (by omega)
    go_enter Tryd.func26, Tryd.ntmps26
    go_upto_region 1 with fail
    rw [HWW.out]
    go_upto_region 3 with fail
    have x20 := ext_cell k20
    have x21 := ext_cell k21
    have x22 := ext_cell k22
    have x30 := ext_cell k30
    have x31 := ext_cell k31
    have x32 := ext_cell k32
    have hof := fun u : Ext W => rindex_any N S f t u.W HFT.out.1 HFT.out.2 hN hS
    rw [HP.out] at hof
    have HOF := Lib.hid hof
    clear hof
    refine wp_region_ext (by kernel_rfl) (by kernel_rfl) ?_
    repeat (go_big_quiet_step (exact calls_ext (HOF.out _)))
    refine wpQuiet_nil ?_
    rintro _ ⟨u, rfl⟩
    have hbu := u.h
    have hWu : Below w.heap.size w u.W := HB0.out.trans (hbu.mono HB0.out.size)
    have HKU := Lib.hid (HK4.out.below hbu HK4.out.lt)
    have HLU := Lib.hid (HL.out.below (hbu.mono HB0.out.size))
    have HWU := Lib.hid hWu
    have y22 := x22 u
    have k40' := (HKU.out.cell 0)
    have k41' := (HKU.out.cell 1)
    have k42' := (HKU.out.cell 2)
    have k43' := (HKU.out.cell 3)
    have z0' := HKU.out.frozen 0
    have z1' := HKU.out.frozen 1
    have z2' := HKU.out.frozen 2
    have z3' := HKU.out.frozen 3
    simp at k40' k41' k42' k43'
    clear x20 x21 x22 x30 x31 x32 HOF hbu hWu z0 z1 z2 z3
    by_cases hle : nc ≤ P + h
    case pos =>
      have hleD : decide ((nc : Int) ≤ (P : Int) + (h : Int)) = true := by simp; omega
      have hn : atC N S cs ⟨h, f, t⟩ = cnone := by rw [HAT.out, List.getElem?_eq_none (by rw [HLN.out]; omega)]; rfl
      have HE2 := Lib.hid hn
      clear hn hle
      go_wp2_with fail
      refine (HNO.out _).mono ?_
      rintro e w5 ⟨rfl, hb5⟩
      have HK5 := Lib.hid (HKU.out.below hb5 HKU.out.lt)
      have HB5 : Hid (Below w.heap.size w w5) := HWU.out.trans (hb5.mono HWU.out.size)
      have y0 := HK5.out.cell 0
      have y1 := HK5.out.cell 1
      have y2 := HK5.out.cell 2
      have y3 := HK5.out.cell 3
      have q0 := HK5.out.frozen 0
      have q1 := HK5.out.frozen 1
      have q2 := HK5.out.frozen 2
      have q3 := HK5.out.frozen 3
      simp at y0 y1 y2 y3
      clear hb5
      go_wp2_with fail
      have r1 := HK5.out.set4 (.int .i64 1099511627776) (.int .i64 0) (.int .i64 (-1)) (.int .i64 0)
      refine bodyPost_ret (results_cl rfl rfl (r1.cell 0) (r1.cell 1) (r1.cell 2) (r1.cell 3)) rfl ⟨by rw [HE2.out]; rfl, ?_⟩
      exact at_below HB5.out HLE.out _ _ _ _
    case neg =>
      have hleD : decide ((nc : Int) ≤ (P : Int) + (h : Int)) = false := by simp; omega
      have hlt : P + h < nc := by omega
      have hltI : (P : Int) + (h : Int) < (nc : Int) := by omega
      have h0I : (0 : Int) ≤ (P : Int) + (h : Int) := by omega
      have hNI : ((P : Int) + (h : Int)).toNat = P + h := by omega
      obtain ⟨b, off, y, hA, _, hy, c0, c1, c2, c3⟩ := HLU.out.cl_at hlt
      have he : atC N S cs ⟨h, f, t⟩ = y := by rw [HAT.out, hy]; rfl
      have HE2 := Lib.hid he
      clear he hlt hy hle
      rw [hA] at y22
      rw [hA]
      go_wp2_with fail
      have r1 := HKU.out.set4 (.int .i64 y.v.c) (.int .i64 y.v.s) (.int .i64 y.r) (.int .i64 y.a)
      refine bodyPost_ret (results_cl rfl rfl (r1.cell 0) (r1.cell 1) (r1.cell 2) (r1.cell 3)) rfl ⟨by rw [HE2.out]; rfl, ?_⟩
      have hbf := at_below HWU.out HLE.out (.int .i64 y.v.c) (.int .i64 y.v.s) (.int .i64 y.r) (.int .i64 y.a)
      rw [HHB.out] at hbf
      exact hbf
end Go.Proofs.YthakcefgbggkcaaDoor
