/- The law of Knuth: the chart's cells are the values and labels that the solver computes on the items' hypergraph. -/
import Derived.Test.YthakcefgbggkcaaDoorChKSol
import Derived.Test.YthakcefgbggkcaaDoorChMay
import Derived.Test.YthakcefgbggkcaaDoorChSub
import Derived.Test.YthakcefgbggkcaaDoorChPair
import Derived.Deep.DeepCutAuto
namespace Go.Proofs.YthakcefgbggkcaaDoor
open Go.RowKit

set_option maxRecDepth 100000 in
set_option maxHeartbeats 8000000 in
theorem lawKnuth_any (w : World) (T N st S : Int) (RA LA FA : Option Addr) (nR rc nL lc nf fc B : Nat) (R : List Rl) (L : List Ar) (fs : List Int) (hR : Reads w B 6 RA nR (rls R)) (hL : Reads w B 5 LA nL (ars L)) (hF : Reads w B 1 FA nf (ints fs)) (hB : B ≤ w.heap.size) (hg : NoneAt w) :
    Calls Tryd.prog 4 #[.agg #[.int .i64 T, .int .i64 N, .int .i64 st, .slice RA nR rc], .agg #[.int .i64 S, .slice LA nL lc, .slice FA nf fc]] w fun e w' => e = .returned (.bool true) ∧ Below w.heap.size w w' := by
  have hlf := hF.len_ints
  obtain ⟨W, hW⟩ : ∃ W, (w.alloc (.cells #[.int .i64 T, .int .i64 N, .int .i64 st, .slice RA nR rc] 24)).alloc (.cells #[.int .i64 S, .slice LA nL lc, .slice FA nf fc] 28) = W := ⟨_, rfl⟩
  obtain ⟨bn, hbn⟩ : ∃ bn, w.heap.size = bn := ⟨_, rfl⟩
  have K1 : Blk W bn 24 #[.int .i64 T, .int .i64 N, .int .i64 st, .slice RA nR rc] := by rw [← hW]; exact (Blk.new' _ _ _ hbn).alloc _
  have K2 : Blk W (bn + 1) 28 #[.int .i64 S, .slice LA nL lc, .slice FA nf fc] := by rw [← hW]; exact Blk.new' _ _ _ (by simp; omega)
  have hBW : Below bn w W := by rw [← hW]; exact ((Below.refl _ _).alloc (by omega) _).alloc (by simp; omega) _
  have n0 := K1.cell 0
  have n1 := K1.cell 1
  have n2 := K1.cell 2
  have n3 := K1.cell 3
  have l0 := K2.cell 0
  have l1 := K2.cell 1
  have l2 := K2.cell 2
  simp at n0 n1 n2 n3 l0 l1 l2
  have HK1 := Lib.hid K1
  have HK2 := Lib.hid K2
  have HBW := Lib.hid hBW
  have HW := Lib.hid hW
  have HBN := Lib.hid hbn
  have hnR := hR.len_rls
  have hnL := hL.len_ars
  have HRL := Lib.hid hnR
  have HLL := Lib.hid hnL
  have HR := Lib.hid (hR.more (show B ≤ bn by omega))
  have HL := Lib.hid (hL.more (show B ≤ bn by omega))
  have HF := Lib.hid (hF.more (show B ≤ bn by omega))
  have HG := Lib.hid (hg.below hBW (by rw [← hbn]; exact hg.lt))
  have HMAY := Lib.hid (may_any W T N st S RA LA FA nR rc nL lc nf fc bn R L fs (HR.out.below hBW) (HL.out.below hBW) (HF.out.below hBW) (by have := hBW.size; omega))
  have HG0 : Hid (∀ w9, Below bn w w9 → NoneAt w9) := fun w9 h => hg.below h (by rw [← hbn]; exact hg.lt)
  clear hW hBW K1 K2 hR hL hF hB hnR hnL hg
  go_enter Tryd.func4, Tryd.ntmps4
  go_upto_region 1 with fail
  try rw [hbn]
  rw [HW.out]
  go_wp2_with fail
  refine HMAY.out.mono ?_
  rintro e w1 ⟨b, rfl, hmay, hb1⟩
  have HM := Lib.hid hmay
  have HA1 := Lib.hid (HK1.out.below hb1 HK1.out.lt)
  have HA2 := Lib.hid (HK2.out.below hb1 HK2.out.lt)
  have HG1 : Hid (NoneAt w1) := HG.out.next hb1
  have HX1 : Hid (Below bn w w1) := HBW.out.trans (hb1.mono (by have := HBW.out.size; omega))
  clear n0 n1 n2 n3 l0 l1 l2 hb1 hmay HMAY
  cases b with
  | false =>
    have HAW := Lib.hid (awake_any w1 HG1.out)
    go_wp2_with fail
    refine HAW.out.mono ?_
    rintro e w2 ⟨rfl, hb2⟩
    have HX2 : Hid (Below bn w w2) := HX1.out.trans (hb2.mono (by have := HX1.out.size; omega))
    clear hb2
    go_wp2_with fail
    go_ret
    exact ⟨rfl, by rw [HBN.out]; exact HX2.out⟩
  | true =>
    have hok := (by first | exact HM.out rfl | exact HM.out trivial | exact HM.out : MayOk T N st S R L fs)
    obtain ⟨N', rfl⟩ := Int.eq_ofNat_of_zero_le (show 0 ≤ N by have := hok.nm.hN; omega)
    obtain ⟨S', rfl⟩ := Int.eq_ofNat_of_zero_le (show 0 ≤ S by have := hok.la.hS; omega)
    have hN0 : 0 < N' := by have := hok.nm.hN; omega
    have hN1 : N' ≤ 10 := by have := hok.hN; omega
    have hS1 : S' ≤ 9 := by have := hok.hS; omega
    have hrl := hok.nm.rl
    have hla := hok.la.ars
    rw [Int.toNat_natCast] at hrl hla
    have hnR := hok.hR
    have hnL := hok.hL
    rw [HRL.out] at hnR
    rw [HLL.out] at hnL
    have hsz : bn ≤ w1.heap.size := by have := HX1.out.size; omega
    have hfS : nf = S' := by have := hok.la.hS; omega
    have hfn : ∀ f ∈ fs, 0 ≤ f ∧ f ≤ 1099511627776 := hok.la.hF
    obtain ⟨st', hst'⟩ := Int.eq_ofNat_of_zero_le hok.nm.hs.1
    have hstN : st' < N' := by have := hok.nm.hs; omega
    subst hst'
    have hS0 : 0 < S' := by have := hok.la.hS; omega
    have hf0 : ∀ f ∈ fs, 0 ≤ f := fun f h => (hfn f h).1
    have a1 := HA1.out.cell 0
    have a2 := HA1.out.cell 1
    have a3 := HA1.out.cell 2
    have a4 := HA1.out.cell 3
    have a5 := HA2.out.cell 0
    have a6 := HA2.out.cell 1
    have a7 := HA2.out.cell 2
    simp at a1 a2 a3 a4 a5 a6 a7
    have HRO := Lib.hid hrl
    have HLO := Lib.hid hla
    have HF0 := Lib.hid hf0
    have HNF := Lib.hid hfS
    have HSB := Lib.hid (And.intro hN0 (And.intro hN1 (And.intro hS1 (And.intro hnR (And.intro hnL (And.intro hS0 hstN))))))
    have HSZ := Lib.hid hsz
    clear hok hrl hla HM hf0 hfn hfS
    by_cases h7 : S' ≤ 7
    case neg =>
      have D7 : decide (7 < S') = true := by simp; omega
      have D7' : decide ((7 : Int) < (S' : Int)) = true := by simp; omega
      have HAW := Lib.hid (awake_any w1 HG1.out)
      clear h7
      go_wp2_with fail
      refine HAW.out.mono ?_
      rintro e w2 ⟨rfl, hb2⟩
      have HX2 : Hid (Below bn w w2) := HX1.out.trans (hb2.mono HSZ.out)
      clear hb2
      go_wp2_with fail
      go_ret
      exact ⟨rfl, by rw [HBN.out]; exact HX2.out⟩
    case pos =>
    have D7 : decide (7 < S') = false := by simp; omega
    have D7' : decide ((7 : Int) < (S' : Int)) = false := by simp; omega
    have HR1 := Lib.hid (HR.out.below HX1.out)
    have HL1 := Lib.hid (HL.out.below HX1.out)
    have HF1 := Lib.hid (HF.out.below HX1.out)
    have H9 : Hid (∀ w9, Below w1.heap.size w1 w9 → (w9.cell? ⟨bn, 0, none⟩ = some (.int .i64 T) ∧ w9.cell? ⟨bn, 1, none⟩ = some (.int .i64 N') ∧ w9.cell? ⟨bn, 2, none⟩ = some (.int .i64 (st' : Int)) ∧ w9.cell? ⟨bn, 3, none⟩ = some (.slice RA nR rc)) ∧ (w9.cell? ⟨bn + 1, 0, none⟩ = some (.int .i64 S') ∧ w9.cell? ⟨bn + 1, 1, none⟩ = some (.slice LA nL lc) ∧ w9.cell? ⟨bn + 1, 2, none⟩ = some (.slice FA nf fc))) := fun w9 h => by
      have K := HA1.out.below h HA1.out.lt
      have K' := HA2.out.below h HA2.out.lt
      exact ⟨⟨K.cell 0, K.cell 1, K.cell 2, K.cell 3⟩, K'.cell 0, K'.cell 1, K'.cell 2⟩
    obtain ⟨nc, hnc⟩ : ∃ nc, tri S' S' * N' = nc := ⟨_, rfl⟩
    have hncb : nc ≤ 810 := by
      have h1 := tri_le S' S'
      have h2 : S' * S' ≤ 9 * 9 := Nat.mul_le_mul hS1 hS1
      have h3 : tri S' S' * N' ≤ 81 * 10 := Nat.mul_le_mul (by omega) hN1
      omega
    have HNC := Lib.hid hnc
    have HNCB := Lib.hid hncb
    obtain ⟨M, hM⟩ : ∃ M, nc + 1 = M := ⟨_, rfl⟩
    have HME := Lib.hid hM
    obtain ⟨P, hP⟩ : ∃ P, hgS N' S' R L S' ++ hgG N' S' st' fs S' = P := ⟨_, rfl⟩
    have HPE := Lib.hid hP
    have HHG : Hid (Calls Tryd.prog 16 #[.agg #[.int .i64 T, .int .i64 N', .int .i64 (st' : Int), .slice RA nR rc], .agg #[.int .i64 S', .slice LA nL lc, .slice FA nf fc]] w1 (RetHg w1 M P)) := by
      rw [← hM, ← hnc, ← hP]
      exact hyper_any w1 T N' S' st' nR rc nL lc nf fc bn RA LA FA R L fs HR1.out HL1.out HF1.out hsz HRO.out HLO.out hstN hN1 hS1 hnR hnL HNF.out
    clear hnc hP h7 hM
    go_upto_region 3 with fail
    go_wp2_with fail
    refine HHG.out.mono ?_
    rintro e w2 ⟨E, ne, ce, es, rfl, hes, rfl, hhg, hb2⟩
    have HES := Lib.hid hes
    obtain ⟨p, hp⟩ : ∃ p, w2.heap.size = p := ⟨_, rfl⟩
    obtain ⟨w3, hw3⟩ : ∃ w3, w2.alloc (.cells #[.int .i64 (M : Nat), .slice E es.length ce] 38) = w3 := ⟨_, rfl⟩
    have hb3 : Below w2.heap.size w2 w3 := by rw [← hw3]; exact (Below.refl _ _).alloc (Nat.le_refl _) _
    have HP3 : Hid (Blk w3 p 38 #[.int .i64 (M : Nat), .slice E es.length ce]) := by rw [← hw3]; exact Blk.new' _ _ _ hp
    have HB3 : Hid (Below w1.heap.size w1 w3) := hb2.trans (hb3.mono hb2.size)
    have HHG3 := Lib.hid ((hhg.below hb3).more hb3.size)
    have HW3 := Lib.hid hw3
    have HPP := Lib.hid hp
    clear hes hhg hb2 hw3 hb3 hp HHG a1 a2 a3 a4 a5 a6 a7 D7 D7'
    go_upto_region 4 with fail
    rw [HW3.out]
    rw [HPP.out]
    have hok' : ∀ e ∈ es, e.Ok M := fun e he => by
      have h1 := hg_ok (p := e.pe) HRO.out HLO.out hstN HF0.out (by rw [HPE.out, ← HES.out]; exact List.mem_map.2 ⟨e, he, rfl⟩)
      rw [HNC.out, HME.out] at h1
      exact ⟨h1.1, h1.2.1, h1.2.2.1, h1.2.2.2⟩
    have hM1 : M ≤ 1000 := by have := HME.out; omega
    have hlen : es.length ≤ 1000000 := by
      have h1 : es.length = P.length := by rw [← HES.out, List.length_map]
      have h2 := hgS_bd (N := N') (S := S') (R := R) (L := L) S' (by rw [HRL.out]; omega) (by rw [HLL.out]; omega) hN1 hS1 (Nat.le_refl _)
      have h3 := hgG_bd (N := N') (S := S') (st := st') (fs := fs) S'
      rw [h1, ← HPE.out, List.length_append]
      omega
    have HOK := Lib.hid hok'
    have HSV : Hid (Calls Tryd.prog 17 #[.agg #[.int .i64 M, .slice E es.length ce]] w3 (SolvePost w3 M es)) := rsolve_any w3 M ce w3.heap.size E es HHG3.out (Nat.le_refl _) hok' hM1 hlen
    have hc0 := HP3.out.cell 0
    have hc1 := HP3.out.cell 1
    simp at hc0 hc1
    have HLEN := Lib.hid hlen
    clear hok' hlen
    go_wp2_with fail
    refine HSV.out.mono ?_
    rintro e w4 ⟨va, ea, V, rfl, hVl, kv, ke, hsol, _, _, hb4⟩
    have hx4 : Below w1.heap.size w1 w4 := HB3.out.trans (hb4.mono HB3.out.size)
    have HVL := Lib.hid hVl
    have HKV := Lib.hid kv
    have HKE := Lib.hid ke
    have HSOL := Lib.hid hsol
    have HB4 := Lib.hid hx4
    have HP4 := Lib.hid (HP3.out.below hb4 HP3.out.lt)
    have HHG4 := Lib.hid ((HHG3.out.below hb4).more hb4.size)
    have HBU : Hid (Calls Tryd.prog 14 #[.agg #[.int .i64 T, .int .i64 N', .int .i64 (st' : Int), .slice RA nR rc], .agg #[.int .i64 S', .slice LA nL lc, .slice FA nf fc]] w4 fun e w' => ∃ A c cs, e = .returned (.agg #[.int .i64 N', .int .i64 S', .slice A nc c]) ∧ Reads w' w'.heap.size 4 A nc (cls cs) ∧ Chart R L N' S' cs ∧ Below w4.heap.size w4 w') := by
      have hx9 : Below bn w1 w4 := hx4.mono HSZ.out
      have h1 := HR1.out.below hx9
      have h2 := HL1.out.below hx9
      have hl : R.length = nR := HRL.out
      have hl2 : L.length = nL := HLL.out
      rw [← hl] at h1 ⊢
      rw [← hl2] at h2 ⊢
      refine (build_any w4 T st' N' S' rc lc nf fc bn RA LA FA R L h1 h2 (Nat.le_trans HSZ.out hx4.size) (HG0.out _ (HX1.out.trans hx9)) HRO.out HLO.out hN0 (by omega) (by omega) (by omega) (by omega)).mono ?_
      rintro e w' ⟨v, rfl, ⟨A, c, cs, rfl, hr, hch, _⟩, hb⟩
      rw [HNC.out] at hr ⊢
      exact ⟨A, c, cs, rfl, hr, hch, hb⟩
    clear hc0 hc1 hVl kv ke hsol hb4 hx4 HSV HP3 HHG3
    obtain ⟨⟨n0, n1, n2, n3⟩, l0, l1, l2⟩ := H9.out _ HB4.out
    go_upto_region 5 with fail
    go_wp2_with fail
    refine HBU.out.mono ?_
    rintro e w5 ⟨A, c, cs, rfl, hrd, hch, hb5⟩
    obtain ⟨pc, hpc⟩ : ∃ pc, w5.heap.size = pc := ⟨_, rfl⟩
    obtain ⟨w6, hw6⟩ : ∃ w6, w5.alloc (.cells #[.int .i64 N', .int .i64 S', .slice A nc c] 34) = w6 := ⟨_, rfl⟩
    have hb6 : Below w5.heap.size w5 w6 := by rw [← hw6]; exact (Below.refl _ _).alloc (Nat.le_refl _) _
    have hb46 : Below w4.heap.size w4 w6 := hb5.trans (hb6.mono hb5.size)
    have HKC : Hid (Blk w6 pc 34 #[.int .i64 N', .int .i64 S', .slice A nc c]) := by rw [← hw6]; exact Blk.new' _ _ _ hpc
    have HKV6 := Lib.hid (HKV.out.below hb46 HKV.out.lt)
    have HKE6 := Lib.hid (HKE.out.below hb46 HKE.out.lt)
    have HP6 := Lib.hid (HP4.out.below hb46 HP4.out.lt)
    have HHG6 := Lib.hid ((HHG4.out.below hb46).more hb46.size)
    have HRD6 := Lib.hid ((hrd.below hb6).more hb6.size)
    have HCH := Lib.hid hch
    have HB6 : Hid (Below w1.heap.size w1 w6) := HB4.out.trans (hb46.mono HB4.out.size)
    have HW6 := Lib.hid hw6
    have HPC := Lib.hid hpc
    have HKN := Lib.hid (knuth_law HRO.out HLO.out hch hN0 hstN HF0.out (HES.out.trans HPE.out.symm) HSOL.out)
    clear n0 n1 n2 n3 l0 l1 l2 hrd hch hb5 hb6 hb46 hw6 hpc HKV HKE HP4 HHG4 HBU HB4
    go_upto_region 6 with fail
    rw [HW6.out]
    rw [HPC.out]
    have H6 : Hid (∀ w9, Below w6.heap.size w6 w9 → ((w9.cell? ⟨bn, 0, none⟩ = some (.int .i64 T) ∧ w9.cell? ⟨bn, 1, none⟩ = some (.int .i64 N') ∧ w9.cell? ⟨bn, 2, none⟩ = some (.int .i64 (st' : Int)) ∧ w9.cell? ⟨bn, 3, none⟩ = some (.slice RA nR rc)) ∧ (w9.cell? ⟨bn + 1, 0, none⟩ = some (.int .i64 S') ∧ w9.cell? ⟨bn + 1, 1, none⟩ = some (.slice LA nL lc) ∧ w9.cell? ⟨bn + 1, 2, none⟩ = some (.slice FA nf fc))) ∧ (w9.cell? ⟨pc, 0, none⟩ = some (.int .i64 N') ∧ w9.cell? ⟨pc, 1, none⟩ = some (.int .i64 S') ∧ w9.cell? ⟨pc, 2, none⟩ = some (.slice A nc c)) ∧ w9.cell? ⟨p, 0, none⟩ = some (.int .i64 M) ∧ w9.cell? ⟨p, 1, none⟩ = some (.slice E es.length ce)) := fun w9 h => by
      have K := HKC.out.below h HKC.out.lt
      have K' := HP6.out.below h HP6.out.lt
      exact ⟨H9.out _ (HB6.out.trans (h.mono HB6.out.size)), ⟨K.cell 0, K.cell 1, K.cell 2⟩, K'.cell 0, K'.cell 1⟩
    have HSP : Hid (Calls Tryd.prog 18 #[.agg #[.int .i64 T, .int .i64 N', .int .i64 (st' : Int), .slice RA nR rc], .agg #[.int .i64 S', .slice LA nL lc, .slice FA nf fc], .agg #[.int .i64 N', .int .i64 S', .slice A nc c]] w6 fun e w' => e = .returned (.bool true) ∧ Below w6.heap.size w6 w') := spanned_any w6 T st' N' S' nR rc nL lc nf fc nc c RA LA FA A (by omega) (by omega) HNC.out.symm
    obtain ⟨⟨⟨n0, n1, n2, n3⟩, l0, l1, l2⟩, ⟨c0, c1, c2⟩, _⟩ := H6.out _ (Below.refl _ _)
    go_wp2_with fail
    refine HSP.out.mono ?_
    rintro e w7 ⟨rfl, hb7⟩
    have HB7 := Lib.hid hb7
    clear n0 n1 n2 n3 l0 l1 l2 c0 c1 c2 hb7
    obtain ⟨_, ⟨_, _, c2⟩, _⟩ := H6.out _ HB7.out
    have uM : IntKind.i64.wrap ((nc : Int) + 1) = (M : Int) := by rw [← HME.out]; exact IntWalk.i64_in _ (by omega)
    go_upto_region 8 with fail
    clear uM c2
    go_upto_region 9 with fail
    go_loopw [9] (fun q wr => ∃ i : Nat, i ≤ nc ∧ q = .int .i64 i ∧ Hid (Below w6.heap.size w6 wr)) (fun q _ => nc - (intOf q).toNat)
    case atStart => exact ⟨0, Nat.zero_le _, rfl, HB7⟩
    case round =>
      obtain ⟨i, hi, rfl, HBr⟩ := hrel
      clear HB7
      have ui : IntKind.i64.wrap ((i : Int) + 1) = (i : Int) + 1 := IntWalk.i64_in _ (by omega)
      obtain ⟨⟨⟨n0, n1, n2, n3⟩, l0, l1, l2⟩, ⟨c0, c1, c2⟩, h0, h1⟩ := H6.out _ HBr.out
      by_cases hlt : i < nc
      case neg =>
        have hltD : decide (i < nc) = false := by simp [hlt]
        obtain rfl : nc = i := by omega
        obtain ⟨⟨⟨gc, gs⟩, gt⟩, hgo⟩ : ∃ b : Vl × Int, gto N' S' st' cs fs S' = b := ⟨_, rfl⟩
        have hkn := HKN.out.2
        rw [HNC.out, hgo] at hkn
        obtain ⟨hvg, hlab⟩ := hkn
        simp only at hvg hlab
        have hncM : nc < M := by have := HME.out; omega
        have HGO : Hid (Calls Tryd.prog 19 #[.agg #[.int .i64 T, .int .i64 N', .int .i64 (st' : Int), .slice RA nR rc], .agg #[.int .i64 S', .slice LA nL lc, .slice FA nf fc], .agg #[.int .i64 N', .int .i64 S', .slice A nc c]] wr fun e w' => e = .returned (.tuple #[.agg #[.int .i64 gc, .int .i64 gs], .int .i64 gt]) ∧ Below wr.heap.size wr w') := by
          have hx : Below w1.heap.size w1 wr := HB6.out.trans (HBr.out.mono HB6.out.size)
          have h := goal_any wr T st' N' S' nR rc nL lc nf fc nc c wr.heap.size RA LA FA A fs cs (((HF1.out.below (hx.mono HSZ.out)).more (Nat.le_trans HSZ.out hx.size))) ((HRD6.out.below HBr.out).more HBr.out.size) (Nat.le_refl _) (HG0.out _ (HX1.out.trans (hx.mono HSZ.out))) (by omega) (by omega) (by omega) (by have := HNF.out; omega) HF0.out (fun x => (CC_nrm HCH.out x).1)
          rw [HNF.out, hgo] at h
          rw [HNF.out]
          exact h
        have HVG := Lib.hid hvg
        have HLAB := Lib.hid hlab
        clear hgo hvg hlab h0 h1
        go_upto_region 16 with fail
        go_wp2_with fail
        refine HGO.out.mono ?_
        rintro e w8 ⟨rfl, hb8⟩
        obtain ⟨bg, hbg⟩ : ∃ bg, w8.heap.size = bg := ⟨_, rfl⟩
        obtain ⟨w9, hw9⟩ : ∃ w9, w8.alloc (.cells #[.int .i64 gc, .int .i64 gs] 45) = w9 := ⟨_, rfl⟩
        have hb9 : Below w8.heap.size w8 w9 := by rw [← hw9]; exact (Below.refl _ _).alloc (Nat.le_refl _) _
        have HB9 : Hid (Below w6.heap.size w6 w9) := HBr.out.trans ((hb8.trans (hb9.mono hb8.size)).mono HBr.out.size)
        have HKG : Hid (Blk w9 bg 45 #[.int .i64 gc, .int .i64 gs]) := by rw [← hw9]; exact Blk.new' _ _ _ hbg
        have HW9 := Lib.hid hw9
        have HBG := Lib.hid hbg
        clear n0 n1 n2 n3 l0 l1 l2 c0 c1 c2 hb8 hw9 hbg hb9
        go_upto_region 17 with fail
        rw [HW9.out]
        rw [HBG.out]
        obtain ⟨q, hq⟩ : ∃ q, cho (gv V) es nc = q := ⟨_, rfl⟩
        have HLAB2 := HLAB
        rw [hq] at HLAB2
        have e0 : w9.cell? ⟨ea, nc, none⟩ = some (.int .i64 q) := by rw [(HKE6.out.below HB9.out HKE6.out.lt).cell, ← hq]; simp [ints, chs_at hncM]
        have uM : IntKind.i64.wrap ((M : Int) - 1) = (nc : Int) := by rw [show (M : Int) - 1 = (nc : Int) by have := HME.out; omega]; exact IntWalk.i64_in _ (by omega)
        have hnI : (nc : Int) < (M : Int) := by omega
        have hn0 : (0 : Int) ≤ (nc : Int) := by omega
        have hQ := Lib.hid hq
        clear hq
        go_upto_region 18 with fail
        have hVi : V[nc]? = some ⟨gc, gs⟩ := by
          have h2 : nc < V.length := by rw [HVL.out]; exact hncM
          rw [← HVG.out, gv, List.getElem?_eq_getElem h2]
          rfl
        obtain ⟨v0, v1⟩ := (HKV6.out.below HB9.out HKV6.out.lt).vl_at hVi
        have k0 := HKG.out.cell 0
        have k1 := HKG.out.cell 1
        simp at k0 k1
        have f0 := ext_cell v0
        have f1 := ext_cell v1
        have f2 := ext_cell k0
        have f3 := ext_cell k1
        have hxb : Below w1.heap.size w1 w9 := HB6.out.trans (HB9.out.mono HB6.out.size)
        have HAW : Hid (∀ u : Ext w9, Calls Tryd.prog 12 #[] u.W fun e w' => e = .returned (.bool true) ∧ Below u.W.heap.size u.W w') := fun u => awake_any u.W (HG0.out _ (HX1.out.trans ((hxb.trans (u.h.mono hxb.size)).mono HSZ.out)))
        have HFIN : Hid (∀ u : Ext w9, Below bn w u.W) := fun u => HX1.out.trans ((hxb.trans (u.h.mono hxb.size)).mono HSZ.out)
        have heq : ∀ w : World, (binOp .eql 45 (.agg #[.int .i64 gc, .int .i64 gs]) (.agg #[.int .i64 gc, .int .i64 gs])).run Tryd.prog w = .ok (.bool true) w := fun w => by rw [run_eql_vl]; simp
        clear v0 v1 k0 k1 hVi hxb e0
        by_cases hq0 : 0 ≤ q
        case neg =>
          obtain rfl : gt = -1 := by
            rcases HLAB2.out with ⟨_, g⟩ | ⟨k, e, g, _⟩
            · exact g
            · omega
          have DQ : decide (q < 0) = true := by simp; omega
          clear hq0
          refine wp_region_ext (by kernel_rfl) (by kernel_rfl) ?_
          repeat (go_big_quiet_step (with_reducible exact calls_ext (HAW.out _)))
          refine wpQuiet_nil ?_
          rintro _ ⟨u, rfl⟩
          clear f0 f1 f2 f3
          go_wp2_with fail
          go_ret
          exact ⟨rfl, by first | exact HFIN.out u | (rw [HBN.out]; exact HFIN.out u)⟩
        case pos =>
          obtain ⟨k, rfl⟩ := Int.eq_ofNat_of_zero_le hq0
          obtain ⟨ed, hed, rfl⟩ : ∃ ed, es[k]? = some ed ∧ gt = ed.l1 := by
            rcases HLAB2.out with ⟨g, _⟩ | ⟨k', e, g1, g2, g3⟩
            · omega
            · have : k' = k := by omega
              subst this
              exact ⟨e, g2, g3⟩
          have hkl : k < es.length := (List.getElem?_eq_some_iff.1 hed).1
          have hkI : (k : Int) < (es.length : Int) := by omega
          have hk0 : (0 : Int) ≤ (k : Int) := by omega
          have hle := HLEN.out
          have DQ : decide ((k : Int) < 0) = false := by simp
          have DQ2 : decide ((0 : Int) ≤ (k : Int)) = true := by simp
          obtain ⟨bE, offE, ed', hE, _, hed', _, _, _, y3, y4, _⟩ := (HHG6.out.below HB9.out).at_ hkl
          rw [hed] at hed'
          injection hed' with hed'
          subst hed'
          obtain ⟨_, _, _, h1⟩ := H6.out _ HB9.out
          rw [hE] at h1
          have f4 := ext_cell h1
          have f5 : ∀ u : Ext w9, u.W.cell? ⟨bE, offE + k * 5 + 3 + 1, none⟩ = some (.int .i64 ed.l1) := ext_cell y4
          clear hq0 hed hE y3 y4 h1
          refine wp_region_ext (by kernel_rfl) (by kernel_rfl) ?_
          repeat (go_big_quiet_step (with_reducible exact calls_ext (HAW.out _)))
          refine wpQuiet_nil ?_
          rintro _ ⟨u, rfl⟩
          clear f0 f1 f2 f3 f4 f5
          go_wp2_with fail
          go_ret
          exact ⟨rfl, by first | exact HFIN.out u | (rw [HBN.out]; exact HFIN.out u)⟩
      case pos =>
        have hltD : decide (i < nc) = true := by simp [hlt]
        have hiM : i < M := by have := HME.out; omega
        obtain ⟨x, hx, hv, hlab⟩ := HKN.out.1 i (by rw [HNC.out]; exact hlt)
        have hVi : V[i]? = some x.v := by
          have h2 : i < V.length := by rw [HVL.out]; exact hiM
          rw [← hv, gv, List.getElem?_eq_getElem h2]
          rfl
        obtain ⟨v0, v1⟩ := (HKV6.out.below HBr.out HKV6.out.lt).vl_at hVi
        obtain ⟨q, hq⟩ : ∃ q, cho (gv V) es i = q := ⟨_, rfl⟩
        have e0 : wr.cell? ⟨ea, i, none⟩ = some (.int .i64 q) := by rw [(HKE6.out.below HBr.out HKE6.out.lt).cell, ← hq]; simp [ints, chs_at hiM]
        obtain ⟨bA, offA, x', hA, _, hx', p0, p1, p2, p3⟩ := (HRD6.out.below HBr.out).cl_at hlt
        rw [hx] at hx'
        injection hx' with hx'
        subst hx'
        have hiI : (i : Int) < (M : Int) := by omega
        have hi0 : (0 : Int) ≤ (i : Int) := by omega
        have hiC : (i : Int) < (nc : Int) := by omega
        have hvlt : va < wr.heap.size := (HKV6.out.below HBr.out HKV6.out.lt).lt
        obtain ⟨bw, hbw⟩ : ∃ bw, wr.heap.size = bw := ⟨_, rfl⟩
        obtain ⟨w8, hw8⟩ : ∃ w8, wr.alloc (.cells #[.int .i64 x.v.c, .int .i64 x.v.s, .int .i64 (-1), .int .i64 0] 47) = w8 := ⟨_, rfl⟩
        have hb8 : Below wr.heap.size wr w8 := by rw [← hw8]; exact (Below.refl _ _).alloc (Nat.le_refl _) _
        have HKW : Hid (Blk w8 bw 47 #[.int .i64 x.v.c, .int .i64 x.v.s, .int .i64 (-1), .int .i64 0]) := by rw [← hw8]; exact Blk.new' _ _ _ hbw
        have HB8 : Hid (Below w6.heap.size w6 w8) := HBr.out.trans (hb8.mono HBr.out.size)
        have HBW9 : Hid (w6.heap.size ≤ bw) := by have := HBr.out.size; show w6.heap.size ≤ bw; omega
        have HX := Lib.hid hx
        have HQ := Lib.hid hq
        have HLAB := Lib.hid hlab
        have HA := Lib.hid hA
        have HW8 := Lib.hid hw8
        have HBWE := Lib.hid hbw
        clear hx hv hlab hVi hq hA hw8 hbw hb8 n0 n1 n2 n3 l0 l1 l2 c0 c1 p0 p1 p2 p3 h0 h1
        go_upto_region 12 with fail
        rw [HW8.out]
        rw [HBWE.out]
        clear v0 v1 e0 c2 hvlt
        have H12 : Hid (∀ w9, Below w6.heap.size w6 w9 → w9.cell? ⟨p, 1, none⟩ = some (.slice E es.length ce) ∧ w9.cell? ⟨pc, 2, none⟩ = some (.slice (some ⟨bA, offA, none⟩) nc c) ∧ w9.cell? ⟨ea, i, none⟩ = some (.int .i64 q) ∧ w9.cell? ⟨bA, offA + i * 4, none⟩ = some (.int .i64 x.v.c) ∧ w9.cell? ⟨bA, offA + i * 4 + 1, none⟩ = some (.int .i64 x.v.s) ∧ w9.cell? ⟨bA, offA + i * 4 + 2, none⟩ = some (.int .i64 x.r) ∧ w9.cell? ⟨bA, offA + i * 4 + 3, none⟩ = some (.int .i64 x.a)) := fun w9 h9 => by
          obtain ⟨_, ⟨_, _, c2⟩, _, h1⟩ := H6.out _ h9
          obtain ⟨bA', offA', x', hA', _, hx', p0, p1, p2, p3⟩ := (HRD6.out.below h9).cl_at hlt
          rw [HX.out] at hx'
          injection hx' with hx'
          subst hx'
          rw [HA.out] at hA' c2
          injection hA' with hA'
          injection hA' with g1 g2
          subst g1 g2
          have e0 : w9.cell? ⟨ea, i, none⟩ = some (.int .i64 q) := by rw [(HKE6.out.below h9 HKE6.out.lt).cell, ← HQ.out]; simp [ints, chs_at hiM]
          exact ⟨h1, c2, e0, p0, p1, p2, p3⟩
        obtain ⟨h1, c2, e0, p0, p1, p2, p3⟩ := H12.out _ HB8.out
        have h0D : decide ((i : Int) < 0) = false := by simp
        have h0L : decide (0 ≤ (i : Int)) = true := by simp
        by_cases hq0 : 0 ≤ q
        case neg =>
          have DQ : decide (0 ≤ q) = false := by simp [hq0]
          have hxr : x.r = -1 ∧ x.a = 0 := by
            rcases HLAB.out with ⟨_, g1, g2⟩ | ⟨k, e, g1, _⟩
            · exact ⟨g1, g2⟩
            · have := HQ.out; omega
          rw [hxr.1] at p2
          rw [hxr.2] at p3
          have hqq := fun w9 : World => rneq_cl w9 ⟨x.v, -1, 0⟩ ⟨x.v, -1, 0⟩ false (by simp)
          have m0 := HKW.out.cell 0
          have m1 := HKW.out.cell 1
          have m2 := HKW.out.cell 2
          have m3 := HKW.out.cell 3
          simp at m0 m1 m2 m3
          clear hxr hq0
          go_upto_region 14 with fail
          go_quiet (fail)
          go_wp2_with fail
          go_roundw
          case rel => exact ⟨i + 1, by omega, by go_num, below_drewN HB8.out _⟩
          case measure => simp [intOf]; omega
        case pos =>
          obtain ⟨k, rfl⟩ := Int.eq_ofNat_of_zero_le hq0
          have DQ : decide ((0 : Int) ≤ (k : Int)) = true := by simp
          obtain ⟨ed, hed, hxr, hxa⟩ : ∃ ed, es[k]? = some ed ∧ x.r = ed.l0 ∧ x.a = ed.l1 := by
            rcases HLAB.out with ⟨g1, _⟩ | ⟨k', e, g1, g2, g3, g4⟩
            · have := HQ.out; omega
            · have : k' = k := by have := HQ.out; omega
              subst this
              exact ⟨e, g2, g3, g4⟩
          have hkl : k < es.length := (List.getElem?_eq_some_iff.1 hed).1
          have hkI : (k : Int) < (es.length : Int) := by omega
          have hk0 : (0 : Int) ≤ (k : Int) := by omega
          have hle := HLEN.out
          obtain ⟨bE, offE, ed', hE, _, hed', _, _, _, y3, y4, _⟩ := (HHG6.out.below HB8.out).at_ hkl
          rw [hed] at hed'
          injection hed' with hed'
          subst hed'
          have H13 : Hid (∀ w9, Below w6.heap.size w6 w9 → w9.cell? ⟨p, 1, none⟩ = some (.slice (some ⟨bE, offE, none⟩) es.length ce) ∧ w9.cell? ⟨ea, i, none⟩ = some (.int .i64 (k : Int)) ∧ w9.cell? ⟨bE, offE + k * 5 + 3, none⟩ = some (.int .i64 ed.l0) ∧ w9.cell? ⟨bE, offE + k * 5 + 3 + 1, none⟩ = some (.int .i64 ed.l1)) := fun w9 h9 => by
            obtain ⟨f1, _, f2, _⟩ := H12.out _ h9
            rw [hE] at f1
            obtain ⟨bE', offE', ed', hE', _, hed', _, _, _, y3, y4, _⟩ := (HHG6.out.below h9).at_ hkl
            rw [hed] at hed'
            injection hed' with hed'
            subst hed'
            rw [hE] at hE'
            injection hE' with hE'
            injection hE' with g1 g2
            subst g1 g2
            exact ⟨f1, f2, y3, y4⟩
          have m0 := HKW.out.cell 0
          have m1 := HKW.out.cell 1
          have m2 := HKW.out.cell 2
          have m3 := HKW.out.cell 3
          simp at m0 m1 m2 m3
          have z2 := HKW.out.frozen 2
          have z3 := HKW.out.frozen 3
          have HEDX := Lib.hid (And.intro hxr hxa)
          clear hq0 hed hxr hxa hE y3 y4
          go_upto_region 13 with fail
          clear h1 c2 e0 p0 p1 p2 p3
          go_cut [] (fun wx => Blk wx bw 47 #[.int .i64 x.v.c, .int .i64 x.v.s, .int .i64 ed.l0, .int .i64 ed.l1] ∧ Below w6.heap.size w6 wx)
          case first =>
            have hbwl := HBW9.out
            go_region_held3 (fun w9 => w9.cell? ⟨p, 1, none⟩ = some (.slice (some ⟨bE, offE, none⟩) es.length ce) ∧ w9.cell? ⟨ea, i, none⟩ = some (.int .i64 (k : Int)) ∧ w9.cell? ⟨bE, offE + k * 5 + 3, none⟩ = some (.int .i64 ed.l0) ∧ w9.cell? ⟨bE, offE + k * 5 + 3 + 1, none⟩ = some (.int .i64 ed.l1))
              ((refine H13.out _ ?_; repeat (first | exact HB8.out | refine Below.drew ?_ | refine Below.setCell ?_ hbwl _)))
              (fail)
            all_goals
              go_wp2_with fail
              go_meet
              exact ⟨Blk.drewN (by have := (HKW.out.set_ 2 (.int .i64 ed.l0)).set_ 3 (.int .i64 ed.l1); simpa using this) 1, ((HB8.out.setCell (p := ⟨bw, 2, none⟩) hbwl _).setCell (p := ⟨bw, 3, none⟩) hbwl _).drew⟩
          case rest =>
            obtain ⟨kw, hbx⟩ := hcut
            rename World => wx
            have HKX := Lib.hid kw
            have HBX := Lib.hid hbx
            have m0 := kw.cell 0
            have m1 := kw.cell 1
            have m2 := kw.cell 2
            have m3 := kw.cell 3
            simp at m0 m1 m2 m3
            obtain ⟨h1, c2, e0, p0, p1, p2, p3⟩ := H12.out _ hbx
            rw [HEDX.out.1] at p2
            rw [HEDX.out.2] at p3
            have hqq := fun w9 : World => rneq_cl w9 ⟨x.v, ed.l0, ed.l1⟩ ⟨x.v, ed.l0, ed.l1⟩ false (by simp)
            clear kw hbx
            go_upto_region 14 with fail
            go_quiet (fail)
            go_wp2_with fail
            go_roundw
            case rel => exact ⟨i + 1, by omega, by go_num, below_drewN HBX.out _⟩
            case measure => simp [intOf]; omega
end Go.Proofs.YthakcefgbggkcaaDoor
