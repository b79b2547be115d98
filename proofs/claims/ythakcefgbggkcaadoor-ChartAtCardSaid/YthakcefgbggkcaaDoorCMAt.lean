/- The law ChartAt. -/
import Derived.Test.YthakcefgbggkcaaDoorCMi
import Derived.Test.YthakcefgbggkcaaDoorCMj
import Derived.Test.YthakcefgbggkcaaDoorCMa
import Derived.MakeChecks
import Derived.LaidHandle
import Derived.SevenTiedAt
import Derived.Test.YthakcefgbggkcaaDoorTie
import Derived.Test.YthakcefgbggkcaaDoorCards
namespace Go.Proofs.YthakcefgbggkcaaDoor
open Go.RowKit

set_option maxRecDepth 100000 in
set_option maxHeartbeats 8000000 in
theorem lawAt_any (w : World) (N S : Int) (nc c B : Nat) (A : Option Addr) (cs : List Cl) (x : It) (hl : Reads w B 4 A nc (cls cs)) (hB : B ≤ w.heap.size) (hg : NoneAt w) :
    Calls Tryd.prog 8 #[.agg #[.int .i64 N, .int .i64 S, .slice A nc c], .agg #[.int .i64 x.h, .int .i64 x.f, .int .i64 x.t]] w fun e w' => e = .returned (.bool true) ∧ Below w.heap.size w w' := by
  obtain ⟨W, hW⟩ : ∃ W, (w.alloc (.cells #[.int .i64 N, .int .i64 S, .slice A nc c] 34)).alloc (.cells #[.int .i64 x.h, .int .i64 x.f, .int .i64 x.t] 61) = W := ⟨_, rfl⟩
  have K2 : Blk W w.heap.size 34 #[.int .i64 N, .int .i64 S, .slice A nc c] := by rw [← hW]; exact (Blk.new' _ _ _ rfl).alloc _
  have K3 : Blk W (w.heap.size + 1) 61 #[.int .i64 x.h, .int .i64 x.f, .int .i64 x.t] := by rw [← hW]; exact Blk.new' _ _ _ (by simp)
  have hb0 : Below w.heap.size w W := by rw [← hW]; exact ((Below.refl _ _).alloc (Nat.le_refl _) _).alloc (by simp) _
  have HL := Lib.hid ((hl.more hB).below hb0)
  have HG : Hid (NoneAt W) := hg.next hb0
  have HB0 := Lib.hid hb0
  have HW := Lib.hid hW
  have k20 := K2.cell 0
  have k21 := K2.cell 1
  have k22 := K2.cell 2
  have k30 := K3.cell 0
  have k31 := K3.cell 1
  have k32 := K3.cell 2
  simp at k20 k21 k22 k30 k31 k32
  clear hl hB hg hW hb0 K2 K3
  obtain ⟨b2, hb2⟩ : ∃ b2, w.heap.size = b2 := ⟨_, rfl⟩
  rw [hb2] at k20 k21 k22 k30 k31 k32
  by_cases hok : S ≤ 9 ∧ 0 ≤ S ∧ N ≤ 10 ∧ 0 ≤ N ∧ nc ≤ 600
  case neg =>
    have hc : decide (9 < S) = true ∨ (decide (9 < S) = false ∧ decide (S < 0) = true) ∨ (decide (9 < S) = false ∧ decide (S < 0) = false ∧ decide (10 < N) = true) ∨ (decide (9 < S) = false ∧ decide (S < 0) = false ∧ decide (10 < N) = false ∧ decide (N < 0) = true) ∨
      (decide (9 < S) = false ∧ decide (S < 0) = false ∧ decide (10 < N) = false ∧ decide (N < 0) = false ∧ decide ((600 : Int) < (nc : Int)) = true) := by
      simp only [decide_eq_true_eq, decide_eq_false_iff_not]
      omega
    rcases hc with d1 | ⟨d1, d2⟩ | ⟨d1, d2, d3⟩ | ⟨d1, d2, d3, d4⟩ | ⟨d1, d2, d3, d4, d5⟩
    all_goals
      go_enter Tryd.func8, Tryd.ntmps8
      go_upto_region 1 with fail
      rw [HW.out]
      go_wp2_with fail
      refine (awake_any _ HG.out).mono ?_
      rintro e w5 ⟨rfl, hb5⟩
      have HB5 : Hid (Below w.heap.size w w5) := HB0.out.trans (hb5.mono HB0.out.size)
      clear hb5
      go_wp2_with fail
      go_ret
      exact ⟨rfl, HB5.out⟩
  case pos =>
    obtain ⟨h1, h2, h3, h4, h5⟩ := hok
    obtain ⟨N', rfl⟩ := Int.eq_ofNat_of_zero_le h4
    obtain ⟨S', rfl⟩ := Int.eq_ofNat_of_zero_le h2
    have d1 : decide (9 < (S' : Int)) = false := by simp; omega
    have d2 : decide ((S' : Int) < 0) = false := by simp
    have d3 : decide (10 < (N' : Int)) = false := by simp; omega
    have d4 : decide ((N' : Int) < 0) = false := by simp
    have d5 : decide ((600 : Int) < (nc : Int)) = false := by simp; omega
    obtain ⟨y, hy⟩ : ∃ y, atC N' S' cs x = y := ⟨_, rfl⟩
    have HAW : Hid (∀ u : Ext W, Calls Tryd.prog 12 #[] u.W fun e w' => e = .returned (.bool true) ∧ Below u.W.heap.size u.W w') := fun u => awake_any u.W (HG.out.next u.h)
    have HA1 : Hid (∀ u : Ext W, Calls Tryd.prog 28 #[.agg #[.int .i64 N', .int .i64 S', .slice A nc c], .agg #[.int .i64 x.h, .int .i64 x.f, .int .i64 x.t]] u.W fun e w' => e = .returned (.agg #[.int .i64 y.v.c, .int .i64 y.v.s, .int .i64 y.r, .int .i64 y.a]) ∧ Below u.W.heap.size u.W w') := fun u => by
      have h := at_any N' S' nc c w.heap.size A cs x u.W (HL.out.below (u.h.mono HB0.out.size)) (Nat.le_trans HB0.out.size u.h.size) (by omega) (by omega) (by omega) (HG.out.next u.h)
      rw [hy] at h
      exact h
    have HA2 : Hid (∀ u : Ext W, Calls Tryd.prog 26 #[.agg #[.int .i64 N', .int .i64 S', .slice A nc c], .agg #[.int .i64 x.h, .int .i64 x.f, .int .i64 x.t]] u.W fun e w' => e = .returned (.agg #[.int .i64 y.v.c, .int .i64 y.v.s, .int .i64 y.r, .int .i64 y.a]) ∧ Below u.W.heap.size u.W w') := fun u => by
      have h := rat_any N' S' nc c w.heap.size A cs x u.W (HL.out.below (u.h.mono HB0.out.size)) (Nat.le_trans HB0.out.size u.h.size) (by omega) (by omega) (by omega)
      rw [hy] at h
      exact h
    have q1 := eql_cl y.v.c y.v.s y.r y.a y.v.c y.v.s y.r y.a
    simp only [decide_true, Bool.and_self] at q1
    clear hy h1 h2 h3 h4 h5
    go_enter Tryd.func8, Tryd.ntmps8
    go_upto_region 1 with fail
    rw [HW.out]
    go_upto_region 3 with fail
    have x20 := ext_cell k20
    have x21 := ext_cell k21
    have x22 := ext_cell k22
    have x30 := ext_cell k30
    have x31 := ext_cell k31
    have x32 := ext_cell k32
    refine wp_region_ext (by kernel_rfl) (by kernel_rfl) ?_
    repeat (go_big_quiet_step (first | exact calls_ext (HAW.out _) | exact calls_ext (HA1.out _) | exact calls_ext (HA2.out _)))
    refine wpQuiet_nil ?_
    rintro _ ⟨u, rfl⟩
    have HBU : Hid (Below w.heap.size w u.W) := HB0.out.trans (u.h.mono HB0.out.size)
    clear x20 x21 x22 x30 x31 x32 HAW HA1 HA2
    go_wp2_with fail
    go_ret
    exact ⟨rfl, HBU.out⟩
end Go.Proofs.YthakcefgbggkcaaDoor

namespace Go.Proofs.YthakcefgbggkcaaDoor
open Go.ChangeShapes Go.WideShapes Go.ChangeAt Go.RowKit

theorem laid_plain (w : World) (l : List (String × DataW Unit)) (h : (l.all fun x => x.2.handleName?.isNone) = true) : laidMetH Tryd.prog l w = laidMet Tryd.prog l w := Go.MakeChecks.laidMetH_plain _ _ _ h
theorem laid_all (os : Os) (args : Array Value) : laidMetH Tryd.prog [("emendate/chart.none", Rows.laid_emendate_chart_none)] ((World.laidAll Tryd.prog os [("emendate/chart.none", Rows.laid_emendate_chart_none)]).forCall (fun _ _ => 0) ⟨#[], args, []⟩).memory := by
  rw [laid_plain _ _ (by rfl)]
  exact laidMet_laidAll args (by kernel_rfl) (by kernel_rfl)
set_option maxRecDepth 100000 in
theorem lawChLAt_lifted (os : Os) (started : os.Started) (H : Type) (enc : TypeId × Value → H) :
    ReturnsInHanded {} Tryd.checked os 8 .any (fun w args => (Rows.chartAtSpec.pre enc Tryd.prog Tryd.f8 [] false w args ∧ laidMetH Tryd.prog Rows.chartAtRow.laid w) ∧ sizedMet enc Tryd.prog Tryd.f8 (OpenSpec.ofChange Rows.chartAtSpec) false w args)
      (Rows.chartAtSpec.post enc Tryd.prog Tryd.f8 false true false false) := by
  refine returnsInHanded_of_change_and (C := Tryd.checked) (X := fun w _ => laidMetH Tryd.prog Rows.chartAtRow.laid w) (fun _ _ _ hh h => h.of_heap hh) Tryd.own started (by kernel_rfl) Tryd.func8
    (ChangeSpec.witness_at (enc := enc) (C := Tryd.checked) (os := os) (X := fun w _ => laidMetH Tryd.prog Rows.chartAtRow.laid w) false (World.laidAll Tryd.prog os [("emendate/chart.none", Rows.laid_emendate_chart_none)]) #[.agg #[.int .i64 0, .int .i64 0, .slice none 0 0], .agg #[.int .i64 0, .int .i64 0, .int .i64 0]] 8 (World.laidAll_os _ _ _) (by kernel_rfl) (by kernel_rfl) (by kernel_rfl) (by kernel_rfl) (by kernel_rfl) (laid_all os _)) ?_
  intro W base args ds gs before hval0 hW hcnd _ hL _
  have hval : ∀ (j : Nat) t v, Tryd.f8.params[j]? = some t → args[j]? = some v → Value.okWide Tryd.prog W .any base t v := hval0
  have hN : NoneAt W := none_of_laid (by rw [← laid_plain _ _ (by rfl)]; exact hL)
  have hW' := hW
  obtain ⟨p, q, hA0, hV, rfl, hfz, hnd⟩ := hW
  have hA : DataW.TrodAll enc Tryd.prog W 0 (fun _ => true) true Tryd.f8.params.toList args.toList ds p := hA0
  rw [Tryd.params8] at hA hval
  obtain ⟨v0, v1, d0, d1, p0, p1, rfl, rfl, rfl, h0, h1⟩ := trodAll_two hA
  obtain ⟨rfl, rfl⟩ := trodVars_none hV
  obtain ⟨N, S, A, c, cs, rfl, hr⟩ := open_chart (hval 0 34 v0 rfl rfl) h0
  obtain ⟨x, rfl⟩ := open_item (hval 1 61 v1 rfl rfl) h1
  refine (lawAt_any W N S cs.length c W.heap.size A cs x hr (Nat.le_refl _) hN).mono fun e W' ⟨he, hb⟩ => ?_
  subst he
  exact ⟨_, rfl, law_post (by kernel_rfl) (by kernel_rfl) rfl (by kernel_rfl) hW' rfl rfl rfl hb⟩
theorem lawChLAt_row : Rows.ChartAtSaid :=
  OpenClaim.holds_of_wide 8 Tryd.f8 rfl rfl rfl rfl rfl rfl rfl ⟨rfl, rfl, rfl, rfl, rfl⟩ rfl rfl rfl rfl rfl (by kernel_rfl) Tryd.func8 (by kernel_rfl)
    (of_decide_eq_true (by kernel_rfl)) (by unfold Func.isWrapper; first | (rw [if_pos (by decide +kernel)]; kernel_rfl) | (rw [if_neg (by decide +kernel)]; exact ⟨rfl, rfl⟩))
    (fun os started H enc _ => lawChLAt_lifted os started H enc)
theorem lawChLAt_holds : Rows.ChartAtCardSaid :=
  Claim7.holds_tied_plain_at .later [] [.data] true Rows.chartAtCard.stood.harness false
    lawChLAt_row (fun _ h => by cases h) (by kernel_rfl) (fun _ h => by cases h) chartAt_row_tie rfl ⟨rfl, rfl⟩ (by kernel_rfl) rfl
    (fun f fn hf hfn => by
      obtain rfl : f = 8 := (Option.some.inj ((show Tryd.prog.funcNamed "emendate/emendatelaw40.ChartAt" = some 8 by kernel_rfl).symm.trans hf)).symm
      obtain rfl : fn = Tryd.f8 := (Option.some.inj (Tryd.func8.symm.trans hfn)).symm
      refine ⟨by kernel_rfl, fun j t ht => ?_⟩
      rw [Tryd.params8] at ht
      have h3 : t = 34 ∨ t = 61 := by
        rcases j with _ | j
        · left; simpa using ht.symm
        · rcases j with _ | j
          · right; simpa using ht.symm
          · simp at ht
      rcases h3 with rfl | rfl
      · exact (show Tryd.prog.wantsStandIn 34 = false by kernel_rfl)
      · exact (show Tryd.prog.wantsStandIn 61 = false by kernel_rfl))
    (by kernel_rfl)
#print axioms lawChLAt_holds
end Go.Proofs.YthakcefgbggkcaaDoor
