/- The law OutsideThroughIsLowerBound. -/
import Derived.Test.YtbalhkbpmahkgaaOMh
import Derived.Test.YtbalhkbpmahkgaaOMi
import Derived.Deep.DeepCutAuto
import Derived.Test.YtbalhkbpmahkgaaOMd
namespace Go.Proofs.Ytbalhkbpmahkgaa
open Go.RowKit

set_option maxRecDepth 100000 in
set_option maxHeartbeats 8000000 in
theorem lawLowB_any (Z : Int) (ce B : Nat) (E : Option Addr) (es : List Ed) (root : Int) (w : World) (hE : HG w B E es.length es) (hB : B ≤ w.heap.size) (v0 v1 : Value) (dn : Nat) (hd : Dvs w B dn v0 v1) : Calls Try.prog 5 #[.agg #[.int .i64 Z, .slice E es.length ce], .int .i64 root, .agg #[v0, v1]] w fun e w' => e = .returned (.bool true) ∧ Below w.heap.size w w' := by
  have HE := Lib.hid (hE.more hB)
  have HD := Lib.hid (hd.more hB)
  obtain _ | dn := dn
  · exact hd.elim
  obtain ⟨ed, A, c, l, rfl, rfl, _, _, _⟩ := hd
  clear hE
  obtain ⟨KD, hKD⟩ : ∃ KD, l.length = KD := ⟨_, rfl⟩
  rw [hKD] at HD ⊢
  clear hKD
  obtain ⟨M, hMM⟩ : ∃ M, es.length = M := ⟨_, rfl⟩
  rw [hMM] at HE ⊢
  have HMM := Lib.hid hMM
  clear hMM
  go_enter Try.func5, Try.ntmps5
  go_wp2_with fail
  obtain ⟨w0, hw0⟩ : ∃ w0, (w.alloc (.cells #[.int .i64 Z, .slice E M ce] 24)).alloc (.cells #[.int .i64 ed, .slice A KD c] 33) = w0 := ⟨_, rfl⟩
  rw [hw0]
  obtain ⟨bh, hbh⟩ : ∃ bh, w.heap.size = bh := ⟨_, rfl⟩
  have HKH0 : Hid (Blk w0 bh 24 #[.int .i64 Z, .slice E M ce]) := by rw [← hw0]; exact (Blk.new' w _ _ hbh).alloc _
  have HKD0 : Hid (Blk w0 (bh + 1) 33 #[.int .i64 ed, .slice A KD c]) := by rw [← hw0]; exact Blk.new' _ _ _ (by simp; omega)
  have HB0 : Hid (Below w.heap.size w w0) := by rw [← hw0]; exact ((Below.refl _ _).alloc (Nat.le_refl _) _).alloc (by simp) _
  try rw [hbh]
  have HBH := Lib.hid hbh
  clear hw0 hbh
  refine (awake_any w0).mono ?_
  rintro e w1 ⟨rfl, hb1⟩
  have HKH1 := Lib.hid (HKH0.out.below hb1 HKH0.out.lt)
  have HKD1 := Lib.hid (HKD0.out.below hb1 HKD0.out.lt)
  have HB1 : Hid (Below w.heap.size w w1) := HB0.out.trans (hb1.mono HB0.out.size)
  clear hb1 HKH0 HB0 HKD0
  have c0 : w1.cell? ⟨bh, 0, none⟩ = some (.int .i64 Z) := HKH1.out.cell 0
  have c1 : w1.cell? ⟨bh, 1, none⟩ = some (.slice E M ce) := HKH1.out.cell 1
  go_wp2_with fail
  have hs := small33_any w1 Z ce w.heap.size E es (by rw [HMM.out]; exact HE.out.below HB1.out) HB1.out.size
  rw [HMM.out] at hs
  refine hs.mono ?_
  rintro e w2 ⟨b, rfl, hb, hbw⟩
  have HBB := Lib.hid hb
  have HKH2 := Lib.hid (HKH1.out.below hbw HKH1.out.lt)
  have HKD2 := Lib.hid (HKD1.out.below hbw HKD1.out.lt)
  have HB2 : Hid (Below w.heap.size w w2) := HB1.out.trans (hbw.mono HB1.out.size)
  clear hs hb hbw HKH1 HB1 c0 c1 HKD1
  cases b with
  | false =>
    go_wp2_with fail
    go_ret
    exact ⟨rfl, HB2.out⟩
  | true =>
  obtain ⟨N, hZ, hN1, hN2, hM, hok, V0, hsol0, hsz0⟩ := HBB.out rfl
  rw [HMM.out] at hM
  subst hZ
  have HOK := Lib.hid hok
  have HS0 := Lib.hid (And.intro hsol0 hsz0)
  have c0 : w2.cell? ⟨bh, 0, none⟩ = some (.int .i64 N) := HKH2.out.cell 0
  have c1 : w2.cell? ⟨bh, 1, none⟩ = some (.slice E M ce) := HKH2.out.cell 1
  clear hok HBB hsol0 hsz0
  have d0 : w2.cell? ⟨bh + 1, 0, none⟩ = some (.int .i64 ed) := HKD2.out.cell 0
  have d1 : w2.cell? ⟨bh + 1, 1, none⟩ = some (.slice A KD c) := HKD2.out.cell 1
  go_wp2_with fail
  refine (size_any (dn + 1) w2 w.heap.size (.int .i64 ed) (.slice A KD c) (HD.out.below HB2.out (Nat.le_refl _)) HB2.out.size).mono ?_
  rintro e w3 ⟨⟨sz, rfl⟩, hb3⟩
  have HKH3 := Lib.hid (HKH2.out.below hb3 HKH2.out.lt)
  have HKD3 := Lib.hid (HKD2.out.below hb3 HKD2.out.lt)
  have HB3 : Hid (Below w.heap.size w w3) := HB2.out.trans (hb3.mono HB2.out.size)
  clear hb3 c0 c1 d0 d1 HKH2 HKD2 HB2
  by_cases h100 : 100 < sz
  case pos =>
    have hD : decide (100 < sz) = true := by simp [h100]
    clear h100
    go_wp2_with fail
    go_ret
    exact ⟨rfl, HB3.out⟩
  case neg =>
  have hD : decide (100 < sz) = false := by simp; omega
  have c0 : w3.cell? ⟨bh, 0, none⟩ = some (.int .i64 N) := HKH3.out.cell 0
  have c1 : w3.cell? ⟨bh, 1, none⟩ = some (.slice E M ce) := HKH3.out.cell 1
  have d0 : w3.cell? ⟨bh + 1, 0, none⟩ = some (.int .i64 ed) := HKD3.out.cell 0
  have d1 : w3.cell? ⟨bh + 1, 1, none⟩ = some (.slice A KD c) := HKD3.out.cell 1
  clear h100
  go_wp2_with fail
  refine (dvalid_any N M ce E es HMM HOK hM w w.heap.size HE.out (Nat.le_refl _) (dn + 1) w3 root (.int .i64 ed) (.slice A KD c) HB3.out HD.out).mono ?_
  rintro e w4 ⟨b, rfl, hb, hbw⟩
  have HBB := Lib.hid hb
  have HKH4 := Lib.hid (HKH3.out.below hbw HKH3.out.lt)
  have HKD4 := Lib.hid (HKD3.out.below hbw HKD3.out.lt)
  have HB4 : Hid (Below w.heap.size w w4) := HB3.out.trans (hbw.mono HB3.out.size)
  clear hb hbw c0 c1 d0 d1 HKH3 HKD3 HB3 hD
  cases b with
  | false =>
    go_wp2_with fail
    go_ret
    exact ⟨rfl, HB4.out⟩
  | true =>
  obtain ⟨x, hdc⟩ := HBB.out rfl
  obtain ⟨r, hr, hrN⟩ : ∃ r : Nat, root = (r : Int) ∧ r < N := by
    obtain ⟨j, e, A', c', l', xs, _, _, _, _, he, hh, _⟩ := hdc
    have := (HOK.out e (List.mem_of_getElem? he)).hd
    exact ⟨root.toNat, by omega, by omega⟩
  subst hr
  have HDC := Lib.hid hdc
  have HRN := Lib.hid hrN
  have c0 : w4.cell? ⟨bh, 0, none⟩ = some (.int .i64 N) := HKH4.out.cell 0
  have c1 : w4.cell? ⟨bh, 1, none⟩ = some (.slice E M ce) := HKH4.out.cell 1
  have H9 : Hid (∀ w9, Below w4.heap.size w4 w9 → w9.cell? ⟨bh, 0, none⟩ = some (.int .i64 N) ∧ w9.cell? ⟨bh, 1, none⟩ = some (.slice E M ce) ∧ Below w4.heap.size w4 w9) := fun w9 h => by
    have K := HKH4.out.below h HKH4.out.lt
    exact ⟨K.cell 0, K.cell 1, h⟩
  clear hdc HBB HD
  have HCPT : Hid (∀ w9, Below w4.heap.size w4 w9 → Calls Try.prog 15 #[.agg #[.int .i64 N, .slice E M ce], .int .i64 (r : Nat)] w9 (RetL N (IsThr es (r : Nat) N) w9)) := fun w9 h9 => by
    have hb9 : Below w.heap.size w w9 := HB4.out.trans (h9.mono HB4.out.size)
    have h := pthrough_any w9 N ce w.heap.size E es (r : Nat) (by rw [HMM.out]; exact HE.out.below hb9) hb9.size HOK.out hN2 hN1 (by rw [HMM.out]; exact hM)
    rw [HMM.out] at h
    exact h
  have HCPE : Hid (∀ w9, Below w4.heap.size w4 w9 → Calls Try.prog 17 #[.agg #[.int .i64 N, .slice E M ce], .int .i64 (r : Nat)] w9 (RetL M (IsEth es (r : Nat) N) w9)) := fun w9 h9 => by
    have hb9 : Below w.heap.size w w9 := HB4.out.trans (h9.mono HB4.out.size)
    have h := pedge_any w9 N ce w.heap.size E es (r : Nat) (by rw [HMM.out]; exact HE.out.below hb9) hb9.size HOK.out hN2 hN1 (by rw [HMM.out]; exact hM)
    rw [HMM.out] at h
    exact h
  have B8 : Below w4.heap.size w4 w4.drew := (Below.refl _ _).drew
  go_upto_region 5 with fail
  clear c0 c1
  go_cut [7, 8] (fun x5 x6 wx => ∃ (g3 g4 : Nat) (l3 l4 : List Int), x5 = .slice (some ⟨g3, 0, none⟩) N N ∧ x6 = .slice (some ⟨g4, 0, none⟩) M M ∧ l3.length = N ∧ l4.length = M ∧ Blk wx g3 3 (ints l3).toArray ∧ Blk wx g4 3 (ints l4).toArray ∧ (IsThr es (r : Nat) N) l3 ∧ (IsEth es (r : Nat) N) l4 ∧ Below w4.heap.size w4 wx)
  case first =>
    go_region_held3 (fun w9 => w9.cell? ⟨bh, 0, none⟩ = some (.int .i64 N) ∧ w9.cell? ⟨bh, 1, none⟩ = some (.slice E M ce) ∧ Below w4.heap.size w4 w9)
      (first | exact H9.out _ B8 | exact H9.out _ X4 | exact H9.out _ X3)
      (first
        | (go_at_call 15; (with_reducible refine (HCPT.out _ B8).mono ?_); rintro e w3 ⟨g3, l3, rfl, hl3, kk, ho3, hg, hb⟩; have X3 : Below w4.heap.size w4 w3 := B8.trans (hb.mono B8.size); have K33 := Lib.hid kk; have L3 := Lib.hid (And.intro hl3 ho3); clear hl3 kk ho3 hg hb)
        | (go_at_call 17; (with_reducible refine (HCPE.out _ X3).mono ?_); rintro e wq ⟨g4, l4, rfl, hl4, kk, ho4, hg, hb⟩; have X4 : Below w4.heap.size w4 wq := X3.trans (hb.mono X3.size); have K44 := Lib.hid kk; have L4 := Lib.hid (And.intro hl4 ho4); have K34 := Lib.hid (K33.out.below hb K33.out.lt); clear hl4 kk ho4 hg hb))
    all_goals
      go_wp2_with fail
      go_meet
      exact ⟨g3, g4, l3, l4, rfl, rfl, L3.out.1, L4.out.1, K34.out, K44.out, L3.out.2, L4.out.2, X4⟩
  case rest =>
  obtain ⟨g3, g4, l3, l4, rfl, rfl, hl3, hl4, K3, K4, ho3, ho4, X4⟩ := hcut
  rename World => wq
  have HL3 := Lib.hid (And.intro hl3 (And.intro K3 ho3))
  have HL4 := Lib.hid (And.intro hl4 (And.intro K4 ho4))
  have HKHq := Lib.hid (HKH4.out.below X4 HKH4.out.lt)
  have HBq : Hid (Below w.heap.size w wq) := HB4.out.trans (X4.mono HB4.out.size)
  have X4q := Lib.hid X4
  clear hl3 hl4 K3 K4 ho3 ho4 X4 B8 H9 HKH4 HB4
  have c0 : wq.cell? ⟨bh, 0, none⟩ = some (.int .i64 N) := HKHq.out.cell 0
  have c1 : wq.cell? ⟨bh, 1, none⟩ = some (.slice E M ce) := HKHq.out.cell 1
  have HKDq := Lib.hid (HKD4.out.below X4q.out HKD4.out.lt)
  obtain ⟨U, O, hs, ho, hT⟩ := HL3.out.2.2
  obtain ⟨U', O', hs', ho', hEl⟩ := HL4.out.2.2
  obtain rfl := hs.uniq hs'
  obtain rfl := ho.uniq ho'
  have HS := Lib.hid hs
  have HO := Lib.hid ho
  have HTT := Lib.hid hT
  have HEL := Lib.hid hEl
  have hq1 : ((N : Int) != (N : Int)) = false := by simp
  have hq2 : ((M : Int) != (M : Int)) = false := by simp
  clear hs ho hT hs' ho' hEl
  go_wp2_with fail
  clear hq1 hq2 c0 c1
  have HCV : Hid (∀ w9, Below wq.heap.size wq w9 → Calls Try.prog 22 #[.agg #[.int .i64 N, .slice E M ce], .agg #[.int .i64 ed, .slice A KD c]] w9 fun e' w' => e' = .returned (.agg #[.int .i64 x.c, .int .i64 x.s]) ∧ Below w9.heap.size w9 w') := fun w9 h9 =>
    dvalue_any N M ce E es HMM HOK hM w w.heap.size HE.out (Nat.le_refl _) U (Lib.hid HS.out.nrm) (Lib.hid HS.out.pre) (dn + 1) w9 (r : Nat) _ _ x (HBq.out.trans (h9.mono HBq.out.size)) HDC.out
  have HCB : Hid (∀ w9, Below wq.heap.size wq w9 → Calls Try.prog 21 #[.agg #[.int .i64 N, .slice E M ce], .slice (some ⟨g3, 0, none⟩) N N, .slice (some ⟨g4, 0, none⟩) M M, .agg #[.int .i64 ed, .slice A KD c], .int .i64 x.c] w9 fun e' w' => e' = .returned (.bool true) ∧ Below w9.heap.size w9 w') := fun w9 h9 =>
    bounded_any N M ce E es HMM HOK hM w w.heap.size HE.out (Nat.le_refl _) U O r HS HO x.c g3 g4 l3 l4 HTT HEL (dn + 1) w9 (r : Nat) _ _ x (HBq.out.trans (h9.mono HBq.out.size)) (HL3.out.2.1.below h9 HL3.out.2.1.lt) (HL4.out.2.1.below h9 HL4.out.2.1.lt) HDC.out (by rw [Int.toNat_natCast, HO.out.pre.root r HRN.out rfl, Int.zero_add]; exact mn_le_self _)
  have H9 : Hid (∀ w9, Below wq.heap.size wq w9 → w9.cell? ⟨bh, 0, none⟩ = some (.int .i64 N) ∧ w9.cell? ⟨bh, 1, none⟩ = some (.slice E M ce) ∧ w9.cell? ⟨bh + 1, 0, none⟩ = some (.int .i64 ed) ∧ w9.cell? ⟨bh + 1, 1, none⟩ = some (.slice A KD c) ∧ Below wq.heap.size wq w9) := fun w9 h => by
    have K := HKHq.out.below h HKHq.out.lt
    have K2 := HKDq.out.below h HKDq.out.lt
    exact ⟨K.cell 0, K.cell 1, K2.cell 0, K2.cell 1, h⟩
  have B8 : Below wq.heap.size wq wq.drew := (Below.refl _ _).drew
  have hfd : ∀ w : World, (Instr.field 38 (.agg #[.int .i64 x.c, .int .i64 x.s]) 0).run Try.prog w = .ok (.int .i64 x.c) w := fun _ => by kernel_rfl
  go_region_held3 (fun w9 => w9.cell? ⟨bh, 0, none⟩ = some (.int .i64 N) ∧ w9.cell? ⟨bh, 1, none⟩ = some (.slice E M ce) ∧ w9.cell? ⟨bh + 1, 0, none⟩ = some (.int .i64 ed) ∧ w9.cell? ⟨bh + 1, 1, none⟩ = some (.slice A KD c) ∧ Below wq.heap.size wq w9)
    (first | exact H9.out _ B8 | exact H9.out _ X8 | exact H9.out _ X7)
    (first
      | (go_at_call 22; (with_reducible refine (HCV.out _ B8).mono ?_); rintro e7 w7 ⟨rfl, hb7⟩; have X7 : Below wq.heap.size wq w7 := B8.trans (hb7.mono B8.size))
      | (go_at_call 21; (with_reducible refine (HCB.out _ X7).mono ?_); rintro e8 w8 ⟨rfl, hb8⟩; have X8 : Below wq.heap.size wq w8 := X7.trans (hb8.mono X7.size)))
  all_goals
    go_wp2_with fail
    go_ret
    exact ⟨rfl, HBq.out.trans (X8.mono HBq.out.size)⟩
end Go.Proofs.Ytbalhkbpmahkgaa

namespace Go.Proofs.Ytbalhkbpmahkgaa
open Go.ChangeShapes Go.WideShapes Go.ChangeAt Go.RowKit

set_option maxRecDepth 100000 in
theorem lawOuLLowB_lifted (os : Os) (started : os.Started) (H : Type) (enc : TypeId × Value → H) :
    ReturnsInHanded {} Try.checked os 5 .any (Rows.outsideThroughIsLowerBoundSpec.pre6 enc Try.prog Try.f5 Rows.outsideThroughIsLowerBoundRow.domain false)
      (Rows.outsideThroughIsLowerBoundSpec.post enc Try.prog Try.f5 false true false false) := by
  refine returnsInHanded_of_change (C := Try.checked) Try.own started (by kernel_rfl) Try.func5
    (ChangeSpec.witness6 (enc := enc) (C := Try.checked) false ⟨#[], #[.agg #[.int .i64 0, .slice none 0 0], .int .i64 0, .agg #[.int .i64 0, .slice none 0 0]], []⟩ 8 (by kernel_rfl) (by kernel_rfl) (by kernel_rfl) (by kernel_rfl)) ?_
  intro W base args ds gs before hval0 hW hcnd _
  have hval : ∀ (j : Nat) t v, Try.f5.params[j]? = some t → args[j]? = some v → Value.okWide Try.prog W .any base t v := hval0
  have hW' := hW
  obtain ⟨p, q, hA0, hV, rfl, hfz, hnd⟩ := hW
  have hA : DataW.TrodAll enc Try.prog W 0 (fun _ => true) true Try.f5.params.toList args.toList ds p := hA0
  rw [Try.params5] at hA hval
  obtain ⟨v0, v1, v2, d0, d1, d2, p0, p1, p2, rfl, rfl, rfl, h0, h1, h2⟩ := trodAll_three hA
  obtain ⟨rfl, rfl⟩ := trodVars_none hV
  obtain ⟨Z0, A0, c0, es0, rfl, hg0, hec0, hc0⟩ := open_hg (hval 0 24 v0 rfl rfl) h0
  obtain ⟨x1, rfl, _, _, wx1⟩ := open_int Try.underlying3 (hval 1 3 v1 rfl rfl) h1
  obtain ⟨v0_2, v1_2, dn2, rfl, hd2⟩ := open_dv (hval 2 33 v2 rfl rfl) h2
  refine (lawLowB_any Z0 c0 W.heap.size A0 es0 x1 W hg0 (Nat.le_refl _) v0_2 v1_2 dn2 hd2).mono fun e W' ⟨he, hb⟩ => ?_
  subst he
  exact ⟨_, rfl, law_post (by kernel_rfl) (by kernel_rfl) rfl (by kernel_rfl) hW' rfl rfl rfl hb⟩

theorem lawOuLLowB_holds : Rows.OutsideThroughIsLowerBoundSaid :=
  OpenClaim.holds_of_wide 5 Try.f5 rfl rfl rfl rfl rfl rfl rfl ⟨rfl, rfl, rfl, rfl, rfl⟩ rfl rfl rfl rfl rfl (by kernel_rfl) Try.func5 (by kernel_rfl)
    (of_decide_eq_true (by kernel_rfl)) (by unfold Func.isWrapper; first | (rw [if_pos (by decide +kernel)]; kernel_rfl) | (rw [if_neg (by decide +kernel)]; exact ⟨rfl, rfl⟩))
    (fun os started H enc _ => lawOuLLowB_lifted os started H enc)
#print axioms lawOuLLowB_holds
end Go.Proofs.Ytbalhkbpmahkgaa
