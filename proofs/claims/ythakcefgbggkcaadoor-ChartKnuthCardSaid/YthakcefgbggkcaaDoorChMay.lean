/- Valid and small: what the law's test finds true. -/
import Derived.Test.YthakcefgbggkcaaDoorChFew
import Derived.Test.YthakcefgbggkcaaDoorChVal24
import Derived.Test.YthakcefgbggkcaaDoorChVal37
namespace Go.Proofs.YthakcefgbggkcaaDoor
open Go.RowKit

structure MayOk (T N st S : Int) (R : List Rl) (L : List Ar) (fs : List Int) : Prop where
  nm : NormOk T N st R
  la : LatOk S T fs L
  hN : N ≤ 10
  hR : R.length ≤ 14
  hS : S ≤ 9
  hL : L.length ≤ 40
set_option maxRecDepth 100000 in
set_option maxHeartbeats 4000000 in
theorem may_any (w : World) (T N st S : Int) (RA LA FA : Option Addr) (nR rc nL lc nf fc B : Nat) (R : List Rl) (L : List Ar) (fs : List Int) (hR : Reads w B 6 RA nR (rls R)) (hL : Reads w B 5 LA nL (ars L)) (hF : Reads w B 1 FA nf (ints fs)) (hB : B ≤ w.heap.size) :
    Calls Tryd.prog 11 #[.agg #[.int .i64 T, .int .i64 N, .int .i64 st, .slice RA nR rc], .agg #[.int .i64 S, .slice LA nL lc, .slice FA nf fc]] w (RetIf (MayOk T N st S R L fs) w) := by
  obtain ⟨P, hP⟩ : ∃ P, MayOk T N st S R L fs = P := ⟨_, rfl⟩
  rw [hP]
  obtain ⟨W, hW⟩ : ∃ W, (w.alloc (.cells #[.int .i64 T, .int .i64 N, .int .i64 st, .slice RA nR rc] 24)).alloc (.cells #[.int .i64 S, .slice LA nL lc, .slice FA nf fc] 28) = W := ⟨_, rfl⟩
  obtain ⟨bn, hbn⟩ : ∃ bn, w.heap.size = bn := ⟨_, rfl⟩
  have K1 : Blk W bn 24 #[.int .i64 T, .int .i64 N, .int .i64 st, .slice RA nR rc] := by rw [← hW]; exact (Blk.new' _ _ _ hbn).alloc _
  have K2 : Blk W (bn + 1) 28 #[.int .i64 S, .slice LA nL lc, .slice FA nf fc] := by rw [← hW]; exact Blk.new' _ _ _ (by simp; omega)
  have hBW : Below bn w W := by rw [← hW]; exact ((Below.refl _ _).alloc (by omega) _).alloc (by simp; omega) _
  have n0 := K1.cell 0
  have n1 := K1.cell 1
  have n2 := K1.cell 2
  have n3 := K1.cell 3
  have l0 := K2.cell 0
  have l1 := K2.cell 1
  have l2 := K2.cell 2
  simp at n0 n1 n2 n3 l0 l1 l2
  have HK1 := Lib.hid K1
  have HK2 := Lib.hid K2
  have HBW := Lib.hid hBW
  have HW := Lib.hid hW
  have HBN := Lib.hid hbn
  have hnR := hR.len_rls
  have hnL := hL.len_ars
  have HRL := Lib.hid hnR
  have HLL := Lib.hid hnL
  have HR := Lib.hid (hR.more (show B ≤ bn by omega))
  have HL := Lib.hid (hL.more (show B ≤ bn by omega))
  have HF := Lib.hid (hF.more (show B ≤ bn by omega))
  have HP := Lib.hid hP
  have HNO : Hid (∀ w', Below bn w w' → RetIf P w (.returned (.bool false)) w') := fun w' h => ⟨false, rfl, fun e => Bool.noConfusion e, by rw [HBN.out]; exact h⟩
  have hfew := few_any W T N st S RA LA FA nR rc nL lc nf fc
  obtain ⟨b1, hb1⟩ : ∃ b1, decide (N ≤ 10 ∧ T ≤ 8 ∧ nR ≤ 14 ∧ S ≤ 9 ∧ nL ≤ 40) = b1 := ⟨_, rfl⟩
  rw [hb1] at hfew
  have HFEW := Lib.hid hfew
  have HB1 := Lib.hid hb1
  clear hW hBW K1 K2 hR hL hF hB hP hnR hnL hfew hb1
  go_enter Tryd.func11, Tryd.ntmps11
  go_upto_region 1 with fail
  try rw [hbn]
  rw [HW.out]
  go_wp2_with fail
  refine HFEW.out.mono ?_
  rintro e w1 ⟨rfl, hb1⟩
  have HX1 : Hid (Below bn w w1) := HBW.out.trans (hb1.mono (by have := HBW.out.size; omega))
  have HA1 := Lib.hid (HK1.out.below hb1 HK1.out.lt)
  have HA2 := Lib.hid (HK2.out.below hb1 HK2.out.lt)
  clear n0 n1 n2 n3 l0 l1 l2 hb1 HFEW
  have n0 := HA1.out.cell 0
  have n1 := HA1.out.cell 1
  have n2 := HA1.out.cell 2
  have n3 := HA1.out.cell 3
  simp at n0 n1 n2 n3
  cases b1 with
  | false =>
    go_wp2_with fail
    go_ret
    exact HNO.out _ HX1.out
  | true =>
    have hsm : N ≤ 10 ∧ T ≤ 8 ∧ nR ≤ 14 ∧ S ≤ 9 ∧ nL ≤ 40 := by have := HB1.out; simpa using this
    have HSM := Lib.hid hsm
    have hsz : bn ≤ w1.heap.size := Nat.le_of_lt HA1.out.lt
    have HV24 := Lib.hid (valid24_any w1 T N st nR rc bn RA R (HR.out.below HX1.out) hsz (by omega))
    clear hsm
    go_wp2_with fail
    refine HV24.out.mono ?_
    rintro e w2 ⟨b2, rfl, hv2, hb2⟩
    have HV2 := Lib.hid hv2
    have HX2 : Hid (Below bn w w2) := HX1.out.trans (hb2.mono hsz)
    have HC1 := Lib.hid (HA1.out.below hb2 HA1.out.lt)
    have HC2 := Lib.hid (HA2.out.below hb2 HA2.out.lt)
    clear n0 n1 n2 n3 hb2 HV24 hv2 hsz
    cases b2 with
    | false =>
      go_wp2_with fail
      go_ret
      exact HNO.out _ HX2.out
    | true =>
      have n0 := HC1.out.cell 0
      have l0 := HC2.out.cell 0
      have l1 := HC2.out.cell 1
      have l2 := HC2.out.cell 2
      simp at n0 l0 l1 l2
      have hsz : bn ≤ w2.heap.size := Nat.le_of_lt HC1.out.lt
      have hsm := HSM.out
      have HV37 := Lib.hid (valid37_any w2 S T nL lc nf fc bn LA FA L fs (HL.out.below HX2.out) (HF.out.below HX2.out) hsz (by omega) (by omega))
      clear hsm
      go_wp2_with fail
      refine HV37.out.mono ?_
      rintro e w3 ⟨b3, rfl, hv3, hb3⟩
      have HV3 := Lib.hid hv3
      have HX3 : Hid (Below bn w w3) := HX2.out.trans (hb3.mono hsz)
      clear n0 l0 l1 l2 hb3 HV37 hv3 hsz
      go_wp2_with fail
      go_ret
      refine ⟨b3, rfl, fun h => ?_, by rw [HBN.out]; exact HX3.out⟩
      have hsm := HSM.out
      rw [← HP.out]
      exact ⟨(by first | exact HV2.out rfl | exact HV2.out trivial | exact HV2.out), HV3.out.1 h, by omega, by rw [HRL.out]; omega, by omega, by rw [HLL.out]; omega⟩
end Go.Proofs.YthakcefgbggkcaaDoor
