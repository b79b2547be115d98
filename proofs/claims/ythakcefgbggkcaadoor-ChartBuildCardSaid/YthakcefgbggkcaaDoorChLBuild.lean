/- The law of Build: the program's chart is the reference's. -/
import Derived.Test.YthakcefgbggkcaaDoorChMay
import Derived.Test.YthakcefgbggkcaaDoorChSame
import Derived.Test.YthakcefgbggkcaaDoorChRBuild
import Derived.Deep.DeepCutAuto
namespace Go.Proofs.YthakcefgbggkcaaDoor
open Go.RowKit

set_option maxRecDepth 100000 in
set_option maxHeartbeats 8000000 in
theorem lawBuild_any (w : World) (T N st S : Int) (RA LA FA : Option Addr) (nR rc nL lc nf fc B : Nat) (R : List Rl) (L : List Ar) (fs : List Int) (hR : Reads w B 6 RA nR (rls R)) (hL : Reads w B 5 LA nL (ars L)) (hF : Reads w B 1 FA nf (ints fs)) (hB : B ≤ w.heap.size) (hg : NoneAt w) :
    Calls Tryd.prog 3 #[.agg #[.int .i64 T, .int .i64 N, .int .i64 st, .slice RA nR rc], .agg #[.int .i64 S, .slice LA nL lc, .slice FA nf fc]] w fun e w' => e = .returned (.bool true) ∧ Below w.heap.size w w' := by
  obtain ⟨W, hW⟩ : ∃ W, (w.alloc (.cells #[.int .i64 T, .int .i64 N, .int .i64 st, .slice RA nR rc] 24)).alloc (.cells #[.int .i64 S, .slice LA nL lc, .slice FA nf fc] 28) = W := ⟨_, rfl⟩
  obtain ⟨bn, hbn⟩ : ∃ bn, w.heap.size = bn := ⟨_, rfl⟩
  have K1 : Blk W bn 24 #[.int .i64 T, .int .i64 N, .int .i64 st, .slice RA nR rc] := by rw [← hW]; exact (Blk.new' _ _ _ hbn).alloc _
  have K2 : Blk W (bn + 1) 28 #[.int .i64 S, .slice LA nL lc, .slice FA nf fc] := by rw [← hW]; exact Blk.new' _ _ _ (by simp; omega)
  have hBW : Below bn w W := by rw [← hW]; exact ((Below.refl _ _).alloc (by omega) _).alloc (by simp; omega) _
  have n0 := K1.cell 0
  have n1 := K1.cell 1
  have n2 := K1.cell 2
  have n3 := K1.cell 3
  have l0 := K2.cell 0
  have l1 := K2.cell 1
  have l2 := K2.cell 2
  simp at n0 n1 n2 n3 l0 l1 l2
  have HK1 := Lib.hid K1
  have HK2 := Lib.hid K2
  have HBW := Lib.hid hBW
  have HW := Lib.hid hW
  have HBN := Lib.hid hbn
  have hnR := hR.len_rls
  have hnL := hL.len_ars
  have HRL := Lib.hid hnR
  have HLL := Lib.hid hnL
  have HR := Lib.hid (hR.more (show B ≤ bn by omega))
  have HL := Lib.hid (hL.more (show B ≤ bn by omega))
  have HF := Lib.hid (hF.more (show B ≤ bn by omega))
  have HG := Lib.hid (hg.below hBW (by rw [← hbn]; exact hg.lt))
  have HMAY := Lib.hid (may_any W T N st S RA LA FA nR rc nL lc nf fc bn R L fs (HR.out.below hBW) (HL.out.below hBW) (HF.out.below hBW) (by have := hBW.size; omega))
  clear hW hBW K1 K2 hR hL hF hB hnR hnL hg
  go_enter Tryd.func3, Tryd.ntmps3
  go_upto_region 1 with fail
  try rw [hbn]
  rw [HW.out]
  go_wp2_with fail
  refine HMAY.out.mono ?_
  rintro e w1 ⟨b, rfl, hmay, hb1⟩
  have HM := Lib.hid hmay
  have HA1 := Lib.hid (HK1.out.below hb1 HK1.out.lt)
  have HA2 := Lib.hid (HK2.out.below hb1 HK2.out.lt)
  have HG1 : Hid (NoneAt w1) := HG.out.next hb1
  have HX1 : Hid (Below bn w w1) := HBW.out.trans (hb1.mono (by have := HBW.out.size; omega))
  clear n0 n1 n2 n3 l0 l1 l2 hb1 hmay HMAY
  cases b with
  | false =>
    have HAW := Lib.hid (awake_any w1 HG1.out)
    go_wp2_with fail
    refine HAW.out.mono ?_
    rintro e w2 ⟨rfl, hb2⟩
    have HX2 : Hid (Below bn w w2) := HX1.out.trans (hb2.mono (by have := HX1.out.size; omega))
    clear hb2
    go_wp2_with fail
    go_ret
    exact ⟨rfl, by rw [HBN.out]; exact HX2.out⟩
  | true =>
    have hok := (by first | exact HM.out rfl | exact HM.out trivial | exact HM.out : MayOk T N st S R L fs)
    obtain ⟨N', rfl⟩ := Int.eq_ofNat_of_zero_le (show 0 ≤ N by have := hok.nm.hN; omega)
    obtain ⟨S', rfl⟩ := Int.eq_ofNat_of_zero_le (show 0 ≤ S by have := hok.la.hS; omega)
    have hN0 : 0 < N' := by have := hok.nm.hN; omega
    have hN1 : N' ≤ 10 := by have := hok.hN; omega
    have hS1 : S' ≤ 9 := by have := hok.hS; omega
    have hrl := hok.nm.rl
    have hla := hok.la.ars
    rw [Int.toNat_natCast] at hrl hla
    have hnR := hok.hR
    have hnL := hok.hL
    rw [HRL.out] at hnR
    rw [HLL.out] at hnL
    have hsz : bn ≤ w1.heap.size := by have := HX1.out.size; omega
    have HBU : Hid (∀ w9, Below w1.heap.size w1 w9 → Calls Tryd.prog 14 #[.agg #[.int .i64 T, .int .i64 N', .int .i64 st, .slice RA nR rc], .agg #[.int .i64 S', .slice LA nL lc, .slice FA nf fc]] w9 fun e w' => ∃ v, e = .returned v ∧ ChartVal w' R L N' S' v ∧ Below w9.heap.size w9 w') := fun w9 h9 => by
      have h1 := HR.out.below (HX1.out.trans (h9.mono hsz))
      have h2 := HL.out.below (HX1.out.trans (h9.mono hsz))
      rw [← HRL.out] at h1 ⊢
      rw [← HLL.out] at h2 ⊢
      exact build_any w9 T st N' S' rc lc nf fc bn RA LA FA R L h1 h2 (Nat.le_trans hsz h9.size) (HG1.out.next h9) hrl hla hN0 (by omega) (by omega) (by rw [HRL.out]; omega) (by rw [HLL.out]; omega)
    have HRB : Hid (∀ w9, Below w1.heap.size w1 w9 → Calls Tryd.prog 15 #[.agg #[.int .i64 T, .int .i64 N', .int .i64 st, .slice RA nR rc], .agg #[.int .i64 S', .slice LA nL lc, .slice FA nf fc]] w9 (RBuildPost w9 R L N' S')) := fun w9 h9 =>
      rbuild_any w9 T st N' S' nR rc nL lc nf fc bn RA LA FA R L (HR.out.below (HX1.out.trans (h9.mono hsz))) (HL.out.below (HX1.out.trans (h9.mono hsz))) (Nat.le_trans hsz h9.size) hN0 (by omega) (by omega) (by omega) (by omega) hrl hla
    have HAW : Hid (∀ w9, Below w1.heap.size w1 w9 → Calls Tryd.prog 12 #[] w9 fun e w' => e = .returned (.bool true) ∧ Below w9.heap.size w9 w') := fun w9 h9 => awake_any w9 (HG1.out.next h9)
    have HRO := Lib.hid hrl
    have HSZ := Lib.hid hsz
    have HNC : Hid (tri S' S' * N' ≤ 1000000000) := by
      have h1 := tri_le S' S'
      have h2 : S' * S' ≤ 9 * 9 := Nat.mul_le_mul hS1 hS1
      have h3 : tri S' S' * N' ≤ 81 * 10 := Nat.mul_le_mul (by omega) hN1
      show _ ≤ _
      omega
    have H9 : Hid (∀ w9, Below w1.heap.size w1 w9 → w9.cell? ⟨bn, 0, none⟩ = some (.int .i64 T) ∧ w9.cell? ⟨bn, 1, none⟩ = some (.int .i64 N') ∧ w9.cell? ⟨bn, 2, none⟩ = some (.int .i64 st) ∧ w9.cell? ⟨bn, 3, none⟩ = some (.slice RA nR rc) ∧ w9.cell? ⟨bn + 1, 0, none⟩ = some (.int .i64 S') ∧ w9.cell? ⟨bn + 1, 1, none⟩ = some (.slice LA nL lc) ∧ w9.cell? ⟨bn + 1, 2, none⟩ = some (.slice FA nf fc)) := fun w9 h9 => by
      have a1 := HA1.out.below h9 HA1.out.lt
      have a2 := HA2.out.below h9 HA2.out.lt
      exact ⟨a1.cell 0, a1.cell 1, a1.cell 2, a1.cell 3, a2.cell 0, a2.cell 1, a2.cell 2⟩
    have B8 : Below w1.heap.size w1 w1.drew := (Below.refl _ _).drew
    clear hok hrl hla hN0 hN1 hS1 hnR hnL hsz HM
    go_upto_region 3 with fail
    go_region_held3 (fun w9 => w9.cell? ⟨bn, 0, none⟩ = some (.int .i64 T) ∧ w9.cell? ⟨bn, 1, none⟩ = some (.int .i64 N') ∧ w9.cell? ⟨bn, 2, none⟩ = some (.int .i64 st) ∧ w9.cell? ⟨bn, 3, none⟩ = some (.slice RA nR rc) ∧ w9.cell? ⟨bn + 1, 0, none⟩ = some (.int .i64 S') ∧ w9.cell? ⟨bn + 1, 1, none⟩ = some (.slice LA nL lc) ∧ w9.cell? ⟨bn + 1, 2, none⟩ = some (.slice FA nf fc))
      (first | exact H9.out _ B8 | exact H9.out _ X2 | exact H9.out _ X3 | exact H9.out _ X4 | exact H9.out _ X5)
      (first
        | (go_at_call 12; (with_reducible refine (HAW.out _ B8).mono ?_); rintro e2 w2 ⟨rfl, hb2⟩; have X2 : Below w1.heap.size w1 w2 := B8.trans (hb2.mono B8.size))
        | (go_at_call 14; (with_reducible refine (HBU.out _ X2).mono ?_); rintro e3 w3 ⟨v3, rfl, ⟨A3, c3, cs3, rfl, r3, ch3, _⟩, hb3⟩; have X3 : Below w1.heap.size w1 w3 := X2.trans (hb3.mono X2.size))
        | (go_at_call 14; (with_reducible refine (HBU.out _ X4).mono ?_); rintro e3 w3 ⟨v3, rfl, ⟨A3, c3, cs3, rfl, r3, ch3, _⟩, hb3⟩; have X3 : Below w1.heap.size w1 w3 := X4.trans (hb3.mono X4.size))
        | (go_at_call 15; (with_reducible refine (HRB.out _ X2).mono ?_); rintro e4 w4 ⟨g4, nc4, cs4, rfl, rfl, bk4, hg4, ch4, hb4⟩; have X4 : Below w1.heap.size w1 w4 := X2.trans (hb4.mono X2.size))
        | (go_at_call 15; (with_reducible refine (HRB.out _ X3).mono ?_); rintro e4 w4 ⟨g4, nc4, cs4, rfl, rfl, bk4, hg4, ch4, hb4⟩; have X4 : Below w1.heap.size w1 w4 := X3.trans (hb4.mono X3.size))
        | (go_at_call 13; obtain rfl := Chart.uniq HRO.out ch3 ch4; have HSM := same_any w4 A3 (some ⟨g4, 0, none⟩) N' S' (tri S' S' * N') c3 (tri S' S' * N') w4.heap.size cs3 ((r3.below hb4).more hb4.size) (Reads.of_cls (bk4) (Chart.len_ ch4)) (Nat.le_refl _) HNC.out; (with_reducible refine HSM.mono ?_); rintro e5 w5 ⟨rfl, hb5⟩; have X5 : Below w1.heap.size w1 w5 := X4.trans (hb5.mono X4.size))
        | (go_at_call 13; obtain rfl := Chart.uniq HRO.out ch3 ch4; have HSM := same_any w3 A3 (some ⟨g4, 0, none⟩) N' S' (tri S' S' * N') c3 (tri S' S' * N') w3.heap.size cs3 (r3) (Reads.of_cls (bk4.below hb3 bk4.lt) (Chart.len_ ch4)) (Nat.le_refl _) HNC.out; (with_reducible refine HSM.mono ?_); rintro e5 w5 ⟨rfl, hb5⟩; have X5 : Below w1.heap.size w1 w5 := X3.trans (hb5.mono X3.size)))
    all_goals
      have HX5 : Hid (Below bn w w5) := HX1.out.trans (X5.mono HSZ.out)
      clear hb5
      go_wp2_with fail
      go_ret
      exact ⟨rfl, by rw [HBN.out]; exact HX5.out⟩
end Go.Proofs.YthakcefgbggkcaaDoor
