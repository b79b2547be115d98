/- The law OutsideThroughMatchesReference. -/
import Derived.Test.YtbalhkbpmahkgaaOMh
import Derived.Test.YtbalhkbpmahkgaaOMd
namespace Go.Proofs.Ytbalhkbpmahkgaa
open Go.RowKit

set_option maxRecDepth 100000 in
set_option maxHeartbeats 8000000 in
theorem lawThr_any (Z : Int) (ce B : Nat) (E : Option Addr) (es : List Ed) (root : Int) (w : World) (hE : HG w B E es.length es) (hB : B ≤ w.heap.size) : Calls Try.prog 4 #[.agg #[.int .i64 Z, .slice E es.length ce], .int .i64 root] w fun e w' => e = .returned (.bool true) ∧ Below w.heap.size w w' := by
  have HE := Lib.hid (hE.more hB)
  clear hE
  obtain ⟨M, hMM⟩ : ∃ M, es.length = M := ⟨_, rfl⟩
  rw [hMM] at HE ⊢
  have HMM := Lib.hid hMM
  clear hMM
  go_enter Try.func4, Try.ntmps4
  go_wp2_with fail
  obtain ⟨w0, hw0⟩ : ∃ w0, w.alloc (.cells #[.int .i64 Z, .slice E M ce] 24) = w0 := ⟨_, rfl⟩
  rw [hw0]
  obtain ⟨bh, hbh⟩ : ∃ bh, w.heap.size = bh := ⟨_, rfl⟩
  have HKH0 : Hid (Blk w0 bh 24 #[.int .i64 Z, .slice E M ce]) := by rw [← hw0]; exact Blk.new' w _ _ hbh
  have HB0 : Hid (Below w.heap.size w w0) := by rw [← hw0]; exact (Below.refl _ _).alloc (Nat.le_refl _) _
  try rw [hbh]
  have HBH := Lib.hid hbh
  clear hw0 hbh
  refine (awake_any w0).mono ?_
  rintro e w1 ⟨rfl, hb1⟩
  have HKH1 := Lib.hid (HKH0.out.below hb1 HKH0.out.lt)
  have HB1 : Hid (Below w.heap.size w w1) := HB0.out.trans (hb1.mono HB0.out.size)
  clear hb1 HKH0 HB0
  have c0 : w1.cell? ⟨bh, 0, none⟩ = some (.int .i64 Z) := HKH1.out.cell 0
  have c1 : w1.cell? ⟨bh, 1, none⟩ = some (.slice E M ce) := HKH1.out.cell 1
  go_wp2_with fail
  have hs := small33_any w1 Z ce w.heap.size E es (by rw [HMM.out]; exact HE.out.below HB1.out) HB1.out.size
  rw [HMM.out] at hs
  refine hs.mono ?_
  rintro e w2 ⟨b, rfl, hb, hbw⟩
  have HBB := Lib.hid hb
  have HKH2 := Lib.hid (HKH1.out.below hbw HKH1.out.lt)
  have HB2 : Hid (Below w.heap.size w w2) := HB1.out.trans (hbw.mono HB1.out.size)
  clear hs hb hbw HKH1 HB1 c0 c1
  cases b with
  | false =>
    go_wp2_with fail
    go_ret
    exact ⟨rfl, HB2.out⟩
  | true =>
  obtain ⟨N, hZ, hN1, hN2, hM, hok, V0, hsol0, hsz0⟩ := HBB.out rfl
  rw [HMM.out] at hM
  subst hZ
  have HOK := Lib.hid hok
  have HS0 := Lib.hid (And.intro hsol0 hsz0)
  have c0 : w2.cell? ⟨bh, 0, none⟩ = some (.int .i64 N) := HKH2.out.cell 0
  have c1 : w2.cell? ⟨bh, 1, none⟩ = some (.slice E M ce) := HKH2.out.cell 1
  clear hok HBB hsol0 hsz0
  have H9 : Hid (∀ w9, Below w2.heap.size w2 w9 → w9.cell? ⟨bh, 0, none⟩ = some (.int .i64 N) ∧ w9.cell? ⟨bh, 1, none⟩ = some (.slice E M ce) ∧ Below w2.heap.size w2 w9) := fun w9 h => by
    have K := HKH2.out.below h HKH2.out.lt
    exact ⟨K.cell 0, K.cell 1, h⟩
  have HCPT : Hid (∀ w9, Below w2.heap.size w2 w9 → Calls Try.prog 15 #[.agg #[.int .i64 N, .slice E M ce], .int .i64 root] w9 (RetL N (IsThr es root N) w9)) := fun w9 h9 => by
    have hb9 : Below w.heap.size w w9 := HB2.out.trans (h9.mono HB2.out.size)
    have h := pthrough_any w9 N ce w.heap.size E es root (by rw [HMM.out]; exact HE.out.below hb9) hb9.size HOK.out hN2 hN1 (by rw [HMM.out]; exact hM)
    rw [HMM.out] at h
    exact h
  have HCRT : Hid (∀ w9, Below w2.heap.size w2 w9 → Calls Try.prog 16 #[.agg #[.int .i64 N, .slice E M ce], .int .i64 root] w9 (RetL N (IsThr es root N) w9)) := fun w9 h9 => by
    have hb9 : Below w.heap.size w w9 := HB2.out.trans (h9.mono HB2.out.size)
    have h := rthrough_any w9 N ce w.heap.size E es root (by rw [HMM.out]; exact HE.out.below hb9) hb9.size HOK.out hN2 hN1 (by rw [HMM.out]; exact hM)
    rw [HMM.out] at h
    exact h
  have HCPE : Hid (∀ w9, Below w2.heap.size w2 w9 → Calls Try.prog 17 #[.agg #[.int .i64 N, .slice E M ce], .int .i64 root] w9 (RetL M (IsEth es root N) w9)) := fun w9 h9 => by
    have hb9 : Below w.heap.size w w9 := HB2.out.trans (h9.mono HB2.out.size)
    have h := pedge_any w9 N ce w.heap.size E es root (by rw [HMM.out]; exact HE.out.below hb9) hb9.size HOK.out hN2 hN1 (by rw [HMM.out]; exact hM)
    rw [HMM.out] at h
    exact h
  have HCRE : Hid (∀ w9, Below w2.heap.size w2 w9 → Calls Try.prog 18 #[.agg #[.int .i64 N, .slice E M ce], .int .i64 root] w9 (RetL M (IsEth es root N) w9)) := fun w9 h9 => by
    have hb9 : Below w.heap.size w w9 := HB2.out.trans (h9.mono HB2.out.size)
    have h := redge_any w9 N ce w.heap.size E es root (by rw [HMM.out]; exact HE.out.below hb9) hb9.size HOK.out hN2 hN1 (by rw [HMM.out]; exact hM)
    rw [HMM.out] at h
    exact h
  have B8 : Below w2.heap.size w2 w2.drew := (Below.refl _ _).drew
  go_upto_region 5 with fail
  clear c0 c1
  go_region_held3 (fun w9 => w9.cell? ⟨bh, 0, none⟩ = some (.int .i64 N) ∧ w9.cell? ⟨bh, 1, none⟩ = some (.slice E M ce) ∧ Below w2.heap.size w2 w9)
    (first | exact H9.out _ B8 | exact H9.out _ X8 | exact H9.out _ X7 | exact H9.out _ X6 | exact H9.out _ X5 | exact H9.out _ X4 | exact H9.out _ X3)
    (first
      | (go_at_call 15; (with_reducible refine (HCPT.out _ B8).mono ?_); rintro e w3 ⟨g3, l3, rfl, hl3, kk, ho3, hg, hb⟩; have X3 : Below w2.heap.size w2 w3 := B8.trans (hb.mono B8.size); have K33 := Lib.hid kk; have L3 := Lib.hid (And.intro hl3 ho3); clear hl3 kk ho3 hg hb)
      | (go_at_call 16; (with_reducible refine (HCRT.out _ X3).mono ?_); rintro e w4 ⟨g4, l4, rfl, hl4, kk, ho4, hg, hb⟩; have X4 : Below w2.heap.size w2 w4 := X3.trans (hb.mono X3.size); have K44 := Lib.hid kk; have L4 := Lib.hid (And.intro hl4 ho4); have K34 := Lib.hid (K33.out.below hb K33.out.lt); clear hl4 kk ho4 hg hb)
      | (have hu4 := L3.out.2.uniq L4.out.2 L3.out.1 L4.out.1; (go_at_call 12; (with_reducible refine (same_b K34.out (by rw [hu4]; exact K44.out) L3.out.1 (by omega)).mono ?_); rintro e w5 ⟨rfl, hb⟩; have X5 : Below w2.heap.size w2 w5 := X4.trans (hb.mono X4.size); clear hb))
      | (go_at_call 17; (with_reducible refine (HCPE.out _ X5).mono ?_); rintro e w6 ⟨g6, l6, rfl, hl6, kk, ho6, hg, hb⟩; have X6 : Below w2.heap.size w2 w6 := X5.trans (hb.mono X5.size); have K66 := Lib.hid kk; have L6 := Lib.hid (And.intro hl6 ho6); clear hl6 kk ho6 hg hb)
      | (go_at_call 18; (with_reducible refine (HCRE.out _ X6).mono ?_); rintro e w7 ⟨g7, l7, rfl, hl7, kk, ho7, hg, hb⟩; have X7 : Below w2.heap.size w2 w7 := X6.trans (hb.mono X6.size); have K77 := Lib.hid kk; have L7 := Lib.hid (And.intro hl7 ho7); have K67 := Lib.hid (K66.out.below hb K66.out.lt); clear hl7 kk ho7 hg hb)
      | (have hu7 := L6.out.2.uniq L7.out.2 (L6.out.1.trans HMM.out.symm) (L7.out.1.trans HMM.out.symm); (go_at_call 12; (with_reducible refine (same_b K67.out (by rw [hu7]; exact K77.out) L6.out.1 (by omega)).mono ?_); rintro e w8 ⟨rfl, hb⟩; have X8 : Below w2.heap.size w2 w8 := X7.trans (hb.mono X7.size); clear hb)))
  all_goals
    go_wp2_with fail
    go_ret
    exact ⟨rfl, HB2.out.trans (X8.mono HB2.out.size)⟩
end Go.Proofs.Ytbalhkbpmahkgaa

namespace Go.Proofs.Ytbalhkbpmahkgaa
open Go.ChangeShapes Go.WideShapes Go.ChangeAt Go.RowKit

set_option maxRecDepth 100000 in
theorem lawOuLThr_lifted (os : Os) (started : os.Started) (H : Type) (enc : TypeId × Value → H) :
    ReturnsInHanded {} Try.checked os 4 .any (Rows.outsideThroughMatchesReferenceSpec.pre6 enc Try.prog Try.f4 Rows.outsideThroughMatchesReferenceRow.domain false)
      (Rows.outsideThroughMatchesReferenceSpec.post enc Try.prog Try.f4 false true false false) := by
  refine returnsInHanded_of_change (C := Try.checked) Try.own started (by kernel_rfl) Try.func4
    (ChangeSpec.witness6 (enc := enc) (C := Try.checked) false ⟨#[], #[.agg #[.int .i64 0, .slice none 0 0], .int .i64 0], []⟩ 8 (by kernel_rfl) (by kernel_rfl) (by kernel_rfl) (by kernel_rfl)) ?_
  intro W base args ds gs before hval0 hW hcnd _
  have hval : ∀ (j : Nat) t v, Try.f4.params[j]? = some t → args[j]? = some v → Value.okWide Try.prog W .any base t v := hval0
  have hW' := hW
  obtain ⟨p, q, hA0, hV, rfl, hfz, hnd⟩ := hW
  have hA : DataW.TrodAll enc Try.prog W 0 (fun _ => true) true Try.f4.params.toList args.toList ds p := hA0
  rw [Try.params4] at hA hval
  obtain ⟨v0, v1, d0, d1, p0, p1, rfl, rfl, rfl, h0, h1⟩ := trodAll_two hA
  obtain ⟨rfl, rfl⟩ := trodVars_none hV
  obtain ⟨Z0, A0, c0, es0, rfl, hg0, hec0, hc0⟩ := open_hg (hval 0 24 v0 rfl rfl) h0
  obtain ⟨x1, rfl, _, _, wx1⟩ := open_int Try.underlying3 (hval 1 3 v1 rfl rfl) h1
  refine (lawThr_any Z0 c0 W.heap.size A0 es0 x1 W hg0 (Nat.le_refl _)).mono fun e W' ⟨he, hb⟩ => ?_
  subst he
  exact ⟨_, rfl, law_post (by kernel_rfl) (by kernel_rfl) rfl (by kernel_rfl) hW' rfl rfl rfl hb⟩

theorem lawOuLThr_holds : Rows.OutsideThroughMatchesReferenceSaid :=
  OpenClaim.holds_of_wide 4 Try.f4 rfl rfl rfl rfl rfl rfl rfl ⟨rfl, rfl, rfl, rfl, rfl⟩ rfl rfl rfl rfl rfl (by kernel_rfl) Try.func4 (by kernel_rfl)
    (of_decide_eq_true (by kernel_rfl)) (by unfold Func.isWrapper; first | (rw [if_pos (by decide +kernel)]; kernel_rfl) | (rw [if_neg (by decide +kernel)]; exact ⟨rfl, rfl⟩))
    (fun os started H enc _ => lawOuLThr_lifted os started H enc)
#print axioms lawOuLThr_holds
end Go.Proofs.Ytbalhkbpmahkgaa
