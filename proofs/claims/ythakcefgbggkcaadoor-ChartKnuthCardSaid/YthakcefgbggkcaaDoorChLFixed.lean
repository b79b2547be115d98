/- The law of the defining equation: each span's cells are those of the reference's Span on the chart itself. -/
import Derived.Test.YthakcefgbggkcaaDoorChMay
import Derived.Test.YthakcefgbggkcaaDoorChSub
import Derived.Test.YthakcefgbggkcaaDoorChRBuild
namespace Go.Proofs.YthakcefgbggkcaaDoor
open Go.RowKit

abbrev slJ (s lo hi : Operand) : Op := .slice 32 s (some lo) (some hi) none
theorem slJ_eq (s lo hi : Operand) : Op.slice 32 s (some lo) (some hi) none = slJ s lo hi := rfl
set_option maxRecDepth 100000 in
set_option maxHeartbeats 8000000 in
theorem lawFixed_any (w : World) (T N st S : Int) (RA LA FA : Option Addr) (nR rc nL lc nf fc B : Nat) (R : List Rl) (L : List Ar) (fs : List Int) (hR : Reads w B 6 RA nR (rls R)) (hL : Reads w B 5 LA nL (ars L)) (hF : Reads w B 1 FA nf (ints fs)) (hB : B ≤ w.heap.size) (hg : NoneAt w) :
    Calls Tryd.prog 5 #[.agg #[.int .i64 T, .int .i64 N, .int .i64 st, .slice RA nR rc], .agg #[.int .i64 S, .slice LA nL lc, .slice FA nf fc]] w fun e w' => e = .returned (.bool true) ∧ Below w.heap.size w w' := by
  obtain ⟨W, hW⟩ : ∃ W, (w.alloc (.cells #[.int .i64 T, .int .i64 N, .int .i64 st, .slice RA nR rc] 24)).alloc (.cells #[.int .i64 S, .slice LA nL lc, .slice FA nf fc] 28) = W := ⟨_, rfl⟩
  obtain ⟨bn, hbn⟩ : ∃ bn, w.heap.size = bn := ⟨_, rfl⟩
  have K1 : Blk W bn 24 #[.int .i64 T, .int .i64 N, .int .i64 st, .slice RA nR rc] := by rw [← hW]; exact (Blk.new' _ _ _ hbn).alloc _
  have K2 : Blk W (bn + 1) 28 #[.int .i64 S, .slice LA nL lc, .slice FA nf fc] := by rw [← hW]; exact Blk.new' _ _ _ (by simp; omega)
  have hBW : Below bn w W := by rw [← hW]; exact ((Below.refl _ _).alloc (by omega) _).alloc (by simp; omega) _
  have n0 := K1.cell 0
  have n1 := K1.cell 1
  have n2 := K1.cell 2
  have n3 := K1.cell 3
  have l0 := K2.cell 0
  have l1 := K2.cell 1
  have l2 := K2.cell 2
  simp at n0 n1 n2 n3 l0 l1 l2
  have HK1 := Lib.hid K1
  have HK2 := Lib.hid K2
  have HBW := Lib.hid hBW
  have HW := Lib.hid hW
  have HBN := Lib.hid hbn
  have hnR := hR.len_rls
  have hnL := hL.len_ars
  have HRL := Lib.hid hnR
  have HLL := Lib.hid hnL
  have HR := Lib.hid (hR.more (show B ≤ bn by omega))
  have HL := Lib.hid (hL.more (show B ≤ bn by omega))
  have HF := Lib.hid (hF.more (show B ≤ bn by omega))
  have HG := Lib.hid (hg.below hBW (by rw [← hbn]; exact hg.lt))
  have HMAY := Lib.hid (may_any W T N st S RA LA FA nR rc nL lc nf fc bn R L fs (HR.out.below hBW) (HL.out.below hBW) (HF.out.below hBW) (by have := hBW.size; omega))
  clear hW hBW K1 K2 hR hL hF hB hnR hnL hg
  go_enter Tryd.func5, Tryd.ntmps5
  go_upto_region 1 with fail
  try rw [hbn]
  rw [HW.out]
  go_wp2_with fail
  refine HMAY.out.mono ?_
  rintro e w1 ⟨b, rfl, hmay, hb1⟩
  have HM := Lib.hid hmay
  have HA1 := Lib.hid (HK1.out.below hb1 HK1.out.lt)
  have HA2 := Lib.hid (HK2.out.below hb1 HK2.out.lt)
  have HG1 : Hid (NoneAt w1) := HG.out.next hb1
  have HX1 : Hid (Below bn w w1) := HBW.out.trans (hb1.mono (by have := HBW.out.size; omega))
  clear n0 n1 n2 n3 l0 l1 l2 hb1 hmay HMAY
  cases b with
  | false =>
    have HAW := Lib.hid (awake_any w1 HG1.out)
    go_wp2_with fail
    refine HAW.out.mono ?_
    rintro e w2 ⟨rfl, hb2⟩
    have HX2 : Hid (Below bn w w2) := HX1.out.trans (hb2.mono (by have := HX1.out.size; omega))
    clear hb2
    go_wp2_with fail
    go_ret
    exact ⟨rfl, by rw [HBN.out]; exact HX2.out⟩
  | true =>
    have hok := (by first | exact HM.out rfl | exact HM.out trivial | exact HM.out : MayOk T N st S R L fs)
    obtain ⟨N', rfl⟩ := Int.eq_ofNat_of_zero_le (show 0 ≤ N by have := hok.nm.hN; omega)
    obtain ⟨S', rfl⟩ := Int.eq_ofNat_of_zero_le (show 0 ≤ S by have := hok.la.hS; omega)
    have hN0 : 0 < N' := by have := hok.nm.hN; omega
    have hN1 : N' ≤ 10 := by have := hok.hN; omega
    have hS1 : S' ≤ 9 := by have := hok.hS; omega
    have hrl := hok.nm.rl
    have hla := hok.la.ars
    rw [Int.toNat_natCast] at hrl hla
    have hnR := hok.hR
    have hnL := hok.hL
    rw [HRL.out] at hnR
    rw [HLL.out] at hnL
    have hsz : bn ≤ w1.heap.size := by have := HX1.out.size; omega
    have hS0 : 0 < S' := by have := hok.la.hS; omega
    have HBU : Hid (Calls Tryd.prog 14 #[.agg #[.int .i64 T, .int .i64 N', .int .i64 st, .slice RA nR rc], .agg #[.int .i64 S', .slice LA nL lc, .slice FA nf fc]] w1 fun e w' => ∃ v, e = .returned v ∧ ChartVal w' R L N' S' v ∧ Below w1.heap.size w1 w') := by
      have h1 := HR.out.below HX1.out
      have h2 := HL.out.below HX1.out
      rw [← HRL.out] at h1 ⊢
      rw [← HLL.out] at h2 ⊢
      exact build_any w1 T st N' S' rc lc nf fc bn RA LA FA R L h1 h2 hsz HG1.out hrl hla hN0 (by omega) (by omega) (by rw [HRL.out]; omega) (by rw [HLL.out]; omega)
    obtain ⟨nc, hnc⟩ : ∃ nc, tri S' S' * N' = nc := ⟨_, rfl⟩
    have HNC := Lib.hid hnc
    have hncb : nc ≤ 1000000000 ∧ 0 < nc := by
      have h1 := tri_le S' S'
      have h2 : S' * S' ≤ 9 * 9 := Nat.mul_le_mul hS1 hS1
      have h3 : tri S' S' * N' ≤ 81 * 10 := Nat.mul_le_mul (by omega) hN1
      have h4 := tri_ge S' S' (Nat.le_refl _)
      have h5 : 1 * 1 ≤ tri S' S' * N' := Nat.mul_le_mul (by omega) hN0
      omega
    have HRO := Lib.hid hrl
    have HLO := Lib.hid hla
    have HSB := Lib.hid (And.intro hN0 (And.intro hN1 (And.intro hS1 (And.intro hnR hnL))))
    have a1 := HA1.out.cell 0
    have a2 := HA1.out.cell 1
    have a3 := HA1.out.cell 2
    have a4 := HA1.out.cell 3
    have a5 := HA2.out.cell 0
    have a6 := HA2.out.cell 1
    have a7 := HA2.out.cell 2
    simp at a1 a2 a3 a4 a5 a6 a7
    clear hok hrl hla HM hnc
    go_upto_region 3 with fail
    go_upto_region 4 with (go_at_call 14; (with_reducible refine HBU.out.mono ?_); rintro e w2 ⟨v, rfl, ⟨A, c, cs, rfl, hcr, hch, hcap⟩, hb2⟩)
    rw [HNC.out] at hcr hcap
    obtain ⟨bc, offc, rfl, hbc, hcc⟩ := hcr.2 hncb.2
    clear hcc
    obtain ⟨p, hp⟩ : ∃ p, w2.heap.size = p := ⟨_, rfl⟩
    rw [HNC.out]
    obtain ⟨w4, hw4⟩ : ∃ w4, w2.alloc (.cells #[.int .i64 N', .int .i64 S', .slice (some ⟨bc, offc, none⟩) nc c] 34) = w4 := ⟨_, rfl⟩
    have hb4 : Below w1.heap.size w1 w4 := by rw [← hw4]; exact hb2.alloc hb2.size _
    have hb24 : Below w2.heap.size w2 w4 := by rw [← hw4]; exact (Below.refl _ _).alloc (Nat.le_refl _) _
    have HP4 : Hid (Blk w4 p 34 #[.int .i64 N', .int .i64 S', .slice (some ⟨bc, offc, none⟩) nc c]) := by rw [← hw4]; exact Blk.new' _ _ _ hp
    have HCR : Hid (Reads w4 w4.heap.size 4 (some ⟨bc, offc, none⟩) nc (cls cs)) := (hcr.below hb24).more hb24.size
    have HCH := Lib.hid hch
    have HA14 := Lib.hid (HA1.out.below hb4 HA1.out.lt)
    have HA24 := Lib.hid (HA2.out.below hb4 HA2.out.lt)
    have HX4 : Hid (Below bn w w4) := HX1.out.trans (hb4.mono hsz)
    have HG4 : Hid (NoneAt w4) := HG1.out.next hb4
    have HCAP := Lib.hid hcap
    have HNCB := Lib.hid hncb
    have HSZ4 : Hid (bn ≤ w4.heap.size) := Nat.le_trans hsz hb4.size
    have H9 : Hid (∀ w9, Below w4.heap.size w4 w9 → w9.cell? ⟨bn, 0, none⟩ = some (.int .i64 T) ∧ w9.cell? ⟨bn, 1, none⟩ = some (.int .i64 N') ∧ w9.cell? ⟨bn, 2, none⟩ = some (.int .i64 st) ∧ w9.cell? ⟨bn, 3, none⟩ = some (.slice RA nR rc) ∧ w9.cell? ⟨bn + 1, 0, none⟩ = some (.int .i64 S') ∧ w9.cell? ⟨bn + 1, 1, none⟩ = some (.slice LA nL lc) ∧ w9.cell? ⟨bn + 1, 2, none⟩ = some (.slice FA nf fc) ∧ w9.cell? ⟨p, 0, none⟩ = some (.int .i64 N') ∧ w9.cell? ⟨p, 1, none⟩ = some (.int .i64 S') ∧ w9.cell? ⟨p, 2, none⟩ = some (.slice (some ⟨bc, offc, none⟩) nc c)) := fun w9 h9 => by
      have b1 := HA14.out.below h9 HA14.out.lt
      have b2 := HA24.out.below h9 HA24.out.lt
      have b3 := HP4.out.below h9 HP4.out.lt
      exact ⟨b1.cell 0, b1.cell 1, b1.cell 2, b1.cell 3, b2.cell 0, b2.cell 1, b2.cell 2, b3.cell 0, b3.cell 1, b3.cell 2⟩
    have HSPD := Lib.hid (spanned_any w4 T st N' S' nR rc nL lc nf fc nc c RA LA FA (some ⟨bc, offc, none⟩) (by omega) (by omega) HNC.out.symm)
    rw [hw4, hp]
    clear hw4 hp hb4 hb24 hb2 hcr hch hcap hbc HBU a1 a2 a3 a4 a5 a6 a7
    obtain ⟨n0, n1, n2, n3, l0, l1, l2, c0, c1, c2⟩ := H9.out w4 (Below.refl _ _)
    go_upto_region 5 with (go_at_call 18; (with_reducible refine HSPD.out.mono ?_); rintro e w5 ⟨rfl, hb5⟩)
    have HB5 := Lib.hid hb5
    clear hb5 HSPD n0 n1 n2 n3 l0 l1 l2 c0 c1 c2
    go_upto_region 6 with fail
    go_wp2_with fail
    go_loopw [6] (fun x wr => ∃ s : Nat, s ≤ S' ∧ x = .int .i64 s ∧ Hid (Below w4.heap.size w4 wr)) (fun x _ => S' - (intOf x).toNat)
    case atStart => exact ⟨0, Nat.zero_le _, rfl, HB5⟩
    case round =>
      obtain ⟨s, hs, rfl, HBs⟩ := hrel
      clear HB5
      obtain ⟨n0, n1, n2, n3, l0, l1, l2, c0, c1, c2⟩ := H9.out wr HBs.out
      by_cases hlt : s < S'
      case neg => as_aux_lemma =>
        have hltD : decide (s < S') = false := by simp [hlt]
        have HAW := Lib.hid (awake_any wr (HG4.out.next HBs.out))
        clear n0 n1 n2 n3 l1 l2 c0 c1 c2
        go_wp2_with fail
        refine HAW.out.mono ?_
        rintro e w6 ⟨rfl, hb6⟩
        have HX6 : Hid (Below bn w w6) := (HX4.out.trans (HBs.out.mono HSZ4.out)).trans (hb6.mono (Nat.le_trans HSZ4.out HBs.out.size))
        clear hb6
        go_wp2_with fail
        go_ret
        exact ⟨rfl, by rw [HBN.out]; exact HX6.out⟩
      case pos =>
        have hltD : decide (s < S') = true := by simp [hlt]
        clear n0 n1 n2 n3 l1 l2 c0 c1 c2
        go_upto_region 9 with fail
        go_wp2_with fail
        clear l0
        rename World => w7
        have HBs7 := HBs
        go_loopw [7] (fun x wr => ∃ t : Nat, (s ≤ t ∧ t ≤ S') ∧ x = .int .i64 t ∧ Hid (Below w4.heap.size w4 wr)) (fun x _ => S' - (intOf x).toNat)
        case atStart => exact ⟨s, ⟨Nat.le_refl _, by omega⟩, rfl, HBs⟩
        case round =>
          obtain ⟨t, ht, rfl, HBt⟩ := hrel
          clear HBs HBs7
          obtain ⟨n0, n1, n2, n3, l0, l1, l2, c0, c1, c2⟩ := H9.out wr HBt.out
          have us : IntKind.i64.wrap ((s : Int) + 1) = (s : Int) + 1 := IntWalk.i64_in _ (by omega)
          have ut : IntKind.i64.wrap ((t : Int) + 1) = (t : Int) + 1 := IntWalk.i64_in _ (by omega)
          by_cases hlt2 : t < S'
          case neg => as_aux_lemma =>
            have hltD2 : decide (t < S') = false := by simp [hlt2]
            clear n0 n1 n2 n3 l1 l2 c0 c1 c2
            go_wp2_with fail
            go_roundw
            case rel => exact ⟨s + 1, by omega, by go_num, HBt⟩
            case measure => simp [intOf]; omega
          case pos =>
            have hltD2 : decide (t < S') = true := by simp [hlt2]
            obtain ⟨o, ho⟩ : ∃ o, cix S' s t * N' = o := ⟨_, rfl⟩
            have hroom := cix_room (N := N') (s := s) (t := t) ht.1 hlt2
            rw [ho, HNC.out] at hroom
            have hsb := HSB.out
            have HIX := Lib.hid (rindex_any N' S' s t wr ht.1 hlt2 (by omega) (by omega))
            rw [ho] at HIX
            have HO := Lib.hid ho
            clear ho hsb
            go_upto_region 13 with (go_at_call 20; (with_reducible refine HIX.out.mono ?_); rintro e w8 ⟨rfl, hb8⟩)
            have HB8 : Hid (Below w4.heap.size w4 w8) := HBt.out.trans (hb8.mono HBt.out.size)
            clear hb8 HIX n0 n1 n2 n3 l0 l1 l2 c0 c1 c2
            have HSP : Hid (∀ w9, Below w4.heap.size w4 w9 → Calls Tryd.prog 22 #[.agg #[.int .i64 T, .int .i64 N', .int .i64 st, .slice RA nR rc], .agg #[.int .i64 S', .slice LA nL lc, .slice FA nf fc], .agg #[.int .i64 N', .int .i64 S', .slice (some ⟨bc, offc, none⟩) nc c], .int .i64 s, .int .i64 t] w9 (RSpanPost w9 R L N' s t (CC N' S' cs))) := fun w9 h9 => by
              have hsb := HSB.out
              have hx : Below bn w w9 := HX4.out.trans (h9.mono HSZ4.out)
              exact rspan_any w9 T st N' S' nR rc nL lc nf fc nc c w4.heap.size s t RA LA FA (some ⟨bc, offc, none⟩) R L cs ((HR.out.below hx).more HSZ4.out) ((HL.out.below hx).more HSZ4.out) (HCR.out.below h9) h9.size hsb.1 (by omega) (by omega) HNCB.out.1 (by omega) (by omega) ht.1 hlt2 HRO.out HLO.out (Chart.nrm_ HCH.out)
            have HSC : Hid (∀ (w9 : World) (g5 c5 k5 : Nat) (own : List Cl) (U : Nat → Vl), Below w4.heap.size w4 w9 → CO w9 k5 g5 c5 N' own → SSol R L s t (CC N' S' cs) U → own = (List.range N').map (cel R L s t (CC N' S' cs) U) → ∀ cc, Calls Tryd.prog 21 #[.slice (some ⟨bc, offc + o * 4, none⟩) N' cc, .slice (some ⟨g5, 0, none⟩) N' c5] w9 fun e w' => e = .returned (.bool true) ∧ Below w9.heap.size w9 w') := fun w9 g5 c5 k5 own U h9 hco hs hown cc => by
              have hsub : (cs.drop o).take N' = own := by
                obtain ⟨U', h1, h2⟩ := Chart.span HCH.out ht.1 hlt2
                rw [HO.out] at h2
                refine sub_eq hco.1 fun j hj => ?_
                rw [h2 j hj, hown, List.getElem?_map, List.getElem?_range hj, h1.uniq hs]
                rfl
              have hr := ((HCR.out.below h9).sub o N' (by omega)).more h9.size
              rw [hsub] at hr
              have hsb := HSB.out
              exact samecells_any w9 _ _ N' cc c5 w9.heap.size own hr hco.reads (by omega)
            have uo : IntKind.i64.wrap ((o : Int) + (N' : Int)) = (o : Int) + (N' : Int) := IntWalk.i64_in _ (by have := HNCB.out; omega)
            have k1 : (0 : Int) ≤ (o : Int) + (N' : Int) := by omega
            have k2 : (o : Int) ≤ (o : Int) + (N' : Int) := by omega
            have k3 : (o : Int) + (N' : Int) ≤ (c : Int) := by have := HCAP.out; omega
            have k4 : ((o : Int) + (N' : Int)).toNat = o + N' := by omega
            have k5 : o + N' - o = N' := by omega
            have k6 : ¬ c = o := by have := HSB.out; have := HCAP.out; omega
            have B8 : Below w4.heap.size w4 w8.drew := HB8.out.drew
            simp only [slJ_eq]
            go_region_held3 (fun w9 => w9.cell? ⟨bn, 0, none⟩ = some (.int .i64 T) ∧ w9.cell? ⟨bn, 1, none⟩ = some (.int .i64 N') ∧ w9.cell? ⟨bn, 2, none⟩ = some (.int .i64 st) ∧ w9.cell? ⟨bn, 3, none⟩ = some (.slice RA nR rc) ∧ w9.cell? ⟨bn + 1, 0, none⟩ = some (.int .i64 S') ∧ w9.cell? ⟨bn + 1, 1, none⟩ = some (.slice LA nL lc) ∧ w9.cell? ⟨bn + 1, 2, none⟩ = some (.slice FA nf fc) ∧ w9.cell? ⟨p, 0, none⟩ = some (.int .i64 N') ∧ w9.cell? ⟨p, 1, none⟩ = some (.int .i64 S') ∧ w9.cell? ⟨p, 2, none⟩ = some (.slice (some ⟨bc, offc, none⟩) nc c))
              (first | exact H9.out _ B8 | exact H9.out _ X5 | exact H9.out _ X6)
              (first
                | (go_at_call 22; (with_reducible refine (HSP.out _ B8).mono ?_); rintro e5 w5 ⟨g5, c5, own, U, rfl, hco, hsol, hown, hb5⟩; have X5 : Below w4.heap.size w4 w5 := B8.trans (hb5.mono B8.size))
                | (go_at_call 21; (with_reducible refine (HSC.out _ g5 c5 _ own U X5 hco hsol hown _).mono ?_); rintro e6 w6 ⟨rfl, hb6⟩; have X6 : Below w4.heap.size w4 w6 := X5.trans (hb6.mono X5.size)))
            all_goals
              go_wp2_with fail
              go_roundw
              case rel => exact ⟨t + 1, by omega, by go_num, X6⟩
              case measure => simp [intOf]; omega
end Go.Proofs.YthakcefgbggkcaaDoor
