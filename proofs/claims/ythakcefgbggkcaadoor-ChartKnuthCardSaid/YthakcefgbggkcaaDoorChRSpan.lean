/- The reference's Span returns the cells of the least values of a span. -/
import Derived.Test.YthakcefgbggkcaaDoorChRSp0
import Derived.BigQuiet
namespace Go.Proofs.YthakcefgbggkcaaDoor
open Go.RowKit

/-- What Span returns: a row of its own with the cells of the least values. -/
def RSpanPost (w : World) (R : List Rl) (L : List Ar) (N s t : Nat) (C : It → Vl) (e : Ending) (w' : World) : Prop := ∃ (g c : Nat) (own : List Cl) (U : Nat → Vl), e = .returned (.slice (some ⟨g, 0, none⟩) N c) ∧ CO w' w.heap.size g c N own ∧ SSol R L s t C U ∧ own = (List.range N).map (cel R L s t C U) ∧ Below w.heap.size w w'
theorem range_map_eq {N : Nat} {f : Nat → Cl} {own : List Cl} (hl : own.length = N) (h : ∀ j < N, own[j]? = some (f j)) : own = (List.range N).map f := by
  apply List.ext_getElem?
  intro i
  rw [List.getElem?_map]
  by_cases hi : i < N
  · rw [h i hi, List.getElem?_range hi]; rfl
  · rw [List.getElem?_eq_none (by omega), List.getElem?_eq_none (by simp; omega)]; rfl
theorem co_le {w : World} {base base' size n : Nat} {e : TypeId} {v : Value} {xs : List Value} (h : w.ownsRow base e size v n xs) (hb : base' ≤ base) : w.ownsRow base' e size v n xs :=
  ⟨h.1, h.2.imp id (fun ⟨g, cap, cur, h1, h2, rest⟩ => ⟨g, cap, cur, h1, Nat.le_trans hb h2, rest⟩)⟩
set_option maxRecDepth 100000 in
set_option maxHeartbeats 8000000 in
theorem rspan_any (w : World) (T st : Int) (N S nR rc nL lc nf fc nc cc B s t : Nat) (RA LA FA CA : Option Addr) (R : List Rl) (L : List Ar) (cs : List Cl)
    (hR : Reads w B 6 RA nR (rls R)) (hL : Reads w B 5 LA nL (ars L)) (hC : Reads w B 4 CA nc (cls cs)) (hB : B ≤ w.heap.size)
    (hN0 : 0 < N) (hN : N ≤ 1000) (hS : S ≤ 60) (hnc : nc ≤ 1000000000) (hnR : nR ≤ 60) (hnL : nL ≤ 60) (hst : s ≤ t) (htS : t < S) (hok : ∀ r ∈ R, r.Ok N) (hLok : ArsOk S L) (hcs : ∀ c ∈ cs, Nrm c.v) :
    Calls Tryd.prog 22 #[.agg #[.int .i64 T, .int .i64 N, .int .i64 st, .slice RA nR rc], .agg #[.int .i64 S, .slice LA nL lc, .slice FA nf fc], .agg #[.int .i64 N, .int .i64 S, .slice CA nc cc], .int .i64 s, .int .i64 t] w (RSpanPost w R L N s t (CC N S cs)) := by
  have hlR := hR.len_rls
  have hlL := hL.len_ars
  have HCN : Hid (∀ x, Nrm (CC N S cs x)) := fun x => atC_nrm hcs x
  have HOK := Lib.hid hok
  have HLO := Lib.hid hLok
  obtain ⟨bn, hbn⟩ : ∃ bn, w.heap.size = bn := ⟨_, rfl⟩
  obtain ⟨k1, hk1⟩ : ∃ k1 : Array Value, #[.int .i64 T, .int .i64 N, .int .i64 st, .slice RA nR rc] = k1 := ⟨_, rfl⟩
  obtain ⟨k2, hk2⟩ : ∃ k2 : Array Value, #[.int .i64 S, .slice LA nL lc, .slice FA nf fc] = k2 := ⟨_, rfl⟩
  obtain ⟨k3, hk3⟩ : ∃ k3 : Array Value, #[.int .i64 N, .int .i64 S, .slice CA nc cc] = k3 := ⟨_, rfl⟩
  obtain ⟨W, hW⟩ : ∃ W, (((w.alloc (.cells #[.int .i64 T, .int .i64 N, .int .i64 st, .slice RA nR rc] 24)).alloc (.cells #[.int .i64 S, .slice LA nL lc, .slice FA nf fc] 28)).alloc (.cells #[.int .i64 N, .int .i64 S, .slice CA nc cc] 34)) = W := ⟨_, rfl⟩
  have HX : Hid (Blk W bn 24 k1 ∧ Blk W (bn + 1) 28 k2 ∧ Blk W (bn + 1 + 1) 34 k3 ∧ Below bn w W ∧ W.heap.size = bn + 1 + 1 + 1) := by
    rw [← hW, ← hk1, ← hk2, ← hk3]
    refine ⟨((Blk.new' w _ _ hbn).alloc _).alloc _, (Blk.new' _ _ _ (by simp; omega)).alloc _, Blk.new' _ _ _ (by simp; omega), ?_, by simp; omega⟩
    exact (((Below.refl _ _).alloc (by omega) _).alloc (by simp; omega) _).alloc (by simp; omega) _
  have HR := Lib.hid (hR.more (show B ≤ bn by omega))
  have HL := Lib.hid (hL.more (show B ≤ bn by omega))
  have HC := Lib.hid (hC.more (show B ≤ bn by omega))
  have HK := Lib.hid (And.intro hk1 (And.intro hk2 hk3))
  have HW := Lib.hid hW
  have HBN := Lib.hid hbn
  have HLR := Lib.hid hlR
  have HLL := Lib.hid hlL
  have n1 : W.cell? ⟨bn, 1, none⟩ = some (.int .i64 N) := by have := HX.out.1.cell 1; rw [← HK.out.1] at this; simpa using this
  clear hR hL hC hB hk1 hk2 hk3 hW hok hLok hcs hlR hlL
  obtain ⟨i0, hi0, hz0, hz1, hz2⟩ := info_parts infoCl
  go_enter Tryd.func22, Tryd.ntmps22
  go_upto_region 1 with fail
  try rw [hbn]
  rw [HW.out]
  go_wp2_with fail
  clear n1
  have hsW : W.heap.size = bn + 1 + 1 + 1 := HX.out.2.2.2.2
  go_loopw [11, 12] (fun v x wr => ∃ i : Nat, i ≤ N ∧ x = .int .i64 i ∧ Hid (wr.ownsRow (bn + 1 + 1 + 1) 47 4 v (List.replicate i cnone).length (cls (List.replicate i cnone))) ∧ Hid (Below (bn + 1 + 1 + 1) W wr)) (fun _ x _ => N - (intOf x).toNat)
  case atStart => exact ⟨0, Nat.zero_le _, rfl, World.ownsRow_nil _ _ _ _, Below.refl _ _⟩
  case round =>
    obtain ⟨i, hi, rfl, HO, HB9⟩ := hrel
    have hle : bn + 1 + 1 + 1 ≤ wr.heap.size := by have := HB9.out.size; omega
    have n1 : wr.cell? ⟨bn, 1, none⟩ = some (.int .i64 N) := by have := (HX.out.1.below HB9.out (by omega)).cell 1; rw [← HK.out.1] at this; simpa using this
    by_cases hlt : i < N
    case pos => as_aux_lemma =>
      have hltD : decide (i < N) = true := by simp [hlt]
      have HNO : Hid (Calls Tryd.prog 41 #[] wr fun e w' => e = .returned (.agg #[.int .i64 1099511627776, .int .i64 0, .int .i64 (-1), .int .i64 0]) ∧ Below wr.heap.size wr w') := rnone_any wr
      have hsn : List.replicate (i + 1) cnone = List.replicate i cnone ++ [cnone] := List.replicate_succ'
      have hlen : (List.replicate i cnone).length = i := by simp
      obtain ⟨acc, hacc⟩ : ∃ acc, List.replicate i cnone = acc := ⟨_, rfl⟩
      rw [hacc] at HO hsn hlen
      have HSN := Lib.hid hsn
      clear hsn hacc
      go_upto_region 5 with fail
      go_wp2_with (first | (go_at_call 41; with_reducible refine HNO.out.mono ?_; rintro e w9 ⟨rfl, hb9⟩; have HO9 := Lib.hid (own_below HO.out hb9); have HC9 := Lib.hid (HB9.out.trans (hb9.mono hle)); have hle9 : bn + 1 + 1 + 1 ≤ w9.heap.size := (by have := HC9.out.size; omega); clear hb9) | (at_builtin; go_must (refine wpList_append_own _ rfl _ _ 32 rfl (bn + 1 + 1 + 1) 47 i0 (.agg #[.int .i64 0, .int .i64 0, .int .i64 0, .int .i64 0]) 4 32 Tryd.underlying32 hi0 hz0 hz1 hz2 rfl (by decide) _ acc.length (cls acc) rfl ?hown ⟨w9.heap.size, 0, none⟩ 1 1 cnone.cells rfl rfl ?c1 ?c2 ?c3 ?c4 ?c5 ?_)))
      case hown => exact HO9.out.alloc _
      case c1 =>
        intro j u hj
        rw [Addr.add_lit, (Blk.new' _ _ _ (by simp)).cell]
        simpa [Cl.cells, cnone, vtop] using hj
      case c2 =>
        intro u hu
        simp [Cl.cells] at hu
        rcases hu with rfl | rfl | rfl | rfl <;> rfl
      case c3 => unfold maxLen; omega
      case c4 => omega
      case c5 => simp; omega
      · intro v' w2 hown' hgrow _
        have R := cls_push (t := cnone) (HC9.out.alloc hle9 _) (by omega) (by rw [hlen]; exact hown') hgrow (HO9.out.alloc _)
        have HR1 := Lib.hid R
        clear hown' hgrow HO R
        go_wp2_with fail
        go_roundw
        case rel => exact ⟨i + 1, by omega, by go_num, by rw [HSN.out]; exact HR1.out.1, HR1.out.2⟩
        case measure => simp [intOf]; omega
    case neg =>
      have hltD : decide (i < N) = false := by simp [hlt]
      obtain rfl : N = i := by omega
      clear hlt hi
      have hCO := CO.of HO.out (by simp) hN0
      obtain ⟨g, c, rfl, hCO⟩ := hCO
      have HSM : Hid (SMm w wr bn g c N k1 k2 k3 (List.replicate N cnone)) :=
        ⟨HX.out.1.below HB9.out (by omega), HX.out.2.1.below HB9.out (by omega), HX.out.2.2.1.below HB9.out (by omega), hCO, HX.out.2.2.2.1.trans (HB9.out.mono (by omega))⟩
      have HFI : Hid (FInv R L s t N (CC N S cs) (List.replicate N cnone)) := FInv.start R L s t N _
      have HPE : Hid (PasE true R L s t (CC N S cs) (List.replicate N cnone)) := fun h => by simp at h
      clear hCO HO HX HB9 hsW hle
      go_wp2_with fail
      clear n1
      rename World => w4
      go_loopw [13] (fun x wr => ∃ (own : List Cl) (b : Bool), x = .bool b ∧ Hid (SMm w wr bn g c N k1 k2 k3 own) ∧ Hid (FInv R L s t N (CC N S cs) own) ∧ Hid (PasE b R L s t (CC N S cs) own)) (fun x wr => 2 * cmeas wr g N + (match x with | .bool true => 1 | _ => 0))
      case atStart => exact ⟨_, true, rfl, HSM, HFI, HPE⟩
      case round =>
        obtain ⟨own0, b, rfl, HM0, HF0, HP0⟩ := hrel
        clear HSM HFI HPE
        cases b with
        | false =>
          have HDN := Lib.hid (HF0.out.done HCN.out HOK.out HLO.out (HP0.out rfl))
          go_wp2_with fail
          go_ret
          refine ⟨g, c, own0, _, rfl, ?_, HDN.out.1, range_map_eq HF0.out.len HDN.out.2, ?_⟩
          · rw [HBN.out]
            exact ⟨HM0.out.ow.1, co_le HM0.out.ow.2 (by omega)⟩
          · rw [HBN.out]
            exact HM0.out.below
        | true =>
          have hme : cmeas wr g N = crks own0 := cmeas_eq HM0.out.ow
          have HME := Lib.hid hme
          have HPK : Hid (PasS false R L s t (CC N S cs) own0 own0 0) := ⟨fun _ => ⟨rfl, StaK.zero⟩, fun h => by simp at h⟩
          clear hme HP0
          go_wp2_with fail
          rename World => w5
          go_loopw [13, 14] (fun x y wr => ∃ (k : Nat) (own : List Cl) (b : Bool), k ≤ nR ∧ y = .int .i64 k ∧ x = .bool b ∧ Hid (SMm w wr bn g c N k1 k2 k3 own) ∧ Hid (FInv R L s t N (CC N S cs) own) ∧ Hid (PasS b R L s t (CC N S cs) own0 own k)) (fun _ y _ => nR - (intOf y).toNat)
          case atStart => exact ⟨0, own0, false, Nat.zero_le _, rfl, rfl, HM0, HF0, HPK⟩
          case round =>
            obtain ⟨k, own, b, hk, rfl, rfl, HM, HF, HP⟩ := hrel
            clear HM0 HF0 HPK
            have n0 : wr.cell? ⟨bn, 0, none⟩ = some (.int .i64 T) := by have := HM.out.k1.cell 0; rw [← HK.out.1] at this; simpa using this
            have n1 : wr.cell? ⟨bn, 1, none⟩ = some (.int .i64 N) := by have := HM.out.k1.cell 1; rw [← HK.out.1] at this; simpa using this
            have n2 : wr.cell? ⟨bn, 2, none⟩ = some (.int .i64 st) := by have := HM.out.k1.cell 2; rw [← HK.out.1] at this; simpa using this
            have n3 : wr.cell? ⟨bn, 3, none⟩ = some (.slice RA nR rc) := by have := HM.out.k1.cell 3; rw [← HK.out.1] at this; simpa using this
            by_cases hlt : k < nR
            case neg => as_aux_lemma =>
              have hltD : decide (k < nR) = false := by simp [hlt]
              obtain rfl : nR = k := by omega
              clear hlt hk
              go_wp2_with fail
              go_roundw
              case rel => exact ⟨own, b, rfl, HM, HF, fun h => by rw [HLR.out]; exact (HP.out.1 h).2⟩
              case measure =>
                have e1 : cmeas wr g N = crks own := cmeas_eq HM.out.ow
                rw [HME.out, e1]
                cases b with
                | true => have := HP.out.2 rfl; simp only; omega
                | false => have := (HP.out.1 rfl).1; subst this; simp
            case pos =>
              have hltD : decide (k < nR) = true := by simp [hlt]
              have l0 : wr.cell? ⟨bn + 1, 0, none⟩ = some (.int .i64 S) := by have := HM.out.k2.cell 0; rw [← HK.out.2.1] at this; simpa using this
              have l1 : wr.cell? ⟨bn + 1, 1, none⟩ = some (.slice LA nL lc) := by have := HM.out.k2.cell 1; rw [← HK.out.2.1] at this; simpa using this
              have l2 : wr.cell? ⟨bn + 1, 2, none⟩ = some (.slice FA nf fc) := by have := HM.out.k2.cell 2; rw [← HK.out.2.1] at this; simpa using this
              have c0 : wr.cell? ⟨bn + 1 + 1, 0, none⟩ = some (.int .i64 N) := by have := HM.out.k3.cell 0; rw [← HK.out.2.2] at this; simpa using this
              have c1 : wr.cell? ⟨bn + 1 + 1, 1, none⟩ = some (.int .i64 S) := by have := HM.out.k3.cell 1; rw [← HK.out.2.2] at this; simpa using this
              have c2 : wr.cell? ⟨bn + 1 + 1, 2, none⟩ = some (.slice CA nc cc) := by have := HM.out.k3.cell 2; rw [← HK.out.2.2] at this; simpa using this
              obtain ⟨br, offr, r, hRA, hbr, hr, _, p1, _⟩ := (HR.out.below HM.out.below).rl_at hlt
              have hrok := HOK.out r (List.mem_of_getElem? hr)
              obtain ⟨h, hh⟩ := Int.eq_ofNat_of_zero_le hrok.hd.1
              have hhN : h < N := by have := hrok.hd.2; omega
              obtain ⟨x, hx, x0, x1, x2, x3⟩ := HM.out.ow.cell hhN
              have hht : r.hd.toNat = h := by rw [hh]; rfl
              obtain ⟨z, hz⟩ : ∃ z, impr (spv (CC N S cs) s t (vf own)) k (insts L s t r) x = z := ⟨_, rfl⟩
              have HIMP : Hid (∀ A, RA = A → Calls Tryd.prog 42 #[.agg #[.int .i64 T, .int .i64 N, .int .i64 st, .slice A nR rc], .agg #[.int .i64 S, .slice LA nL lc, .slice FA nf fc], .agg #[.int .i64 N, .int .i64 S, .slice CA nc cc], .slice (some ⟨g, 0, none⟩) N c, .int .i64 s, .int .i64 t, .int .i64 k] wr fun e w' => e = .returned (.agg #[.int .i64 z.v.c, .int .i64 z.v.s, .int .i64 z.r, .int .i64 z.a]) ∧ Below wr.heap.size wr w') := fun A hA => by
                rw [← hz, ← hA]
                have hsz : bn ≤ wr.heap.size := by have := HM.out.k1.lt; omega
                exact improve_any wr T st N S nR rc nL lc nf fc nc cc wr.heap.size c s t k RA LA FA CA _ R L cs own r x ((HR.out.below HM.out.below).more hsz) ((HL.out.below HM.out.below).more hsz) ((HC.out.below HM.out.below).more hsz) HM.out.ow.reads (Nat.le_refl _) (by omega) (by omega) hnc (by omega) hst htS hr hrok HLO.out (by rw [hht]; exact hx) (spv_nrm HCN.out HF.out.nv)
              have HRA := Lib.hid hRA
              rw [hRA] at n3 ⊢
              rw [hh] at p1
              have HZ := Lib.hid hz
              have HX := Lib.hid hx
              have HRR := Lib.hid hr
              have HHT := Lib.hid hht
              clear hz hx hr hht hh hrok
              have u1 : IntKind.i64.wrap ((k : Int) + 1) = (k : Int) + 1 := IntWalk.i64_in _ (by omega)
              go_upto_region 13 with (go_at_call 42; with_reducible refine (HIMP.out _ HRA.out).mono ?_; rintro e w6 ⟨rfl, hb6⟩)
              obtain ⟨bz, hbz⟩ : ∃ bz, w6.heap.size = bz := ⟨_, rfl⟩
              obtain ⟨wq, hwq⟩ : ∃ wq, w6.alloc (.cells #[.int .i64 z.v.c, .int .i64 z.v.s, .int .i64 z.r, .int .i64 z.a] 47) = wq := ⟨_, rfl⟩
              have hbq : Below wr.heap.size wr wq := by rw [← hwq]; exact hb6.alloc hb6.size _
              have HMQ := Lib.hid (HM.out.next hbq)
              have HKZ : Hid (Blk wq bz 47 #[.int .i64 z.v.c, .int .i64 z.v.s, .int .i64 z.r, .int .i64 z.a]) := by rw [← hwq]; exact Blk.new' _ _ _ hbz
              have hbg : bz ≠ g := by have h1 := HM.out.ow.lt.2; have h2 := hb6.size; omega
              have HBG := Lib.hid hbg
              rw [hwq, hbz]
              have hp1 : wq.cell? ⟨br, offr + k * 6 + 1, none⟩ = some (.int .i64 h) := (hbq.cell (p := ⟨br, offr + k * 6 + 1, none⟩) (World.block_lt_of_cell? wr _ p1)).trans p1
              have hBR := Lib.hid hbr
              clear hwq hbz hb6 hbq hbg n0 n1 n2 n3 l0 l1 l2 c0 c1 c2 x0 x1 x2 x3 p1 HIMP
              have n3 : wq.cell? ⟨bn, 3, none⟩ = some (.slice (some ⟨br, offr, none⟩) nR rc) := by have := HMQ.out.k1.cell 3; rw [← HK.out.1, HRA.out] at this; simpa using this
              obtain ⟨x', hx', x0, x1, x2, x3⟩ := HMQ.out.ow.cell hhN
              rw [HX.out] at hx'
              injection hx' with hx'
              subst hx'
              have z0 := HKZ.out.cell 0
              have z1 := HKZ.out.cell 1
              have z2 := HKZ.out.cell 2
              have z3 := HKZ.out.cell 3
              simp at z0 z1 z2 z3
              have hltI : (k : Int) < (nR : Int) := by omega
              have h0D : decide ((k : Int) < 0) = false := by simp
              have h0L : decide (0 ≤ (k : Int)) = true := by simp
              have hhI : (h : Int) < (N : Int) := by omega
              have h1D : decide ((h : Int) < 0) = false := by simp
              have h1L : decide (0 ≤ (h : Int)) = true := by simp
              by_cases heq : z = x
              case pos =>
                have hq := fun w9 : World => rneq_cl w9 z x false (by rw [heq]; simp)
                have HEQ := Lib.hid heq
                clear heq
                go_quiet (fail)
                rename_i nq
                go_wp2_with fail
                go_roundw
                case rel =>
                  refine ⟨k + 1, own, b, by omega, by go_num, rfl, HMQ.out.next (below_drewN (Below.refl _ _) _), HF, ⟨fun hb => ⟨(HP.out.1 hb).1, (HP.out.1 hb).2.next HRR.out (by rw [HHT.out]; exact HX.out) (by rw [HZ.out]; exact HEQ.out)⟩, HP.out.2⟩⟩
                case measure => simp [intOf]; omega
              case neg =>
                have hq := fun w9 : World => rneq_cl w9 z x true (by
                  cases hc : (decide (z.v.c = x.v.c) && (decide (z.v.s = x.v.s) && (decide (z.r = x.r) && decide (z.a = x.a)))) with
                  | false => rfl
                  | true =>
                    simp only [Bool.and_eq_true, decide_eq_true_eq] at hc
                    exact absurd (cl_eq_iff.2 hc) heq)
                have hput := HF.out.put HCN.out HOK.out HLO.out hst (by omega) (by rw [HLR.out]; omega) (by rw [HLL.out]; omega) HRR.out HHT.out HX.out (by rw [HZ.out]; exact heq)
                rw [HZ.out] at hput
                have HPUT := Lib.hid hput
                clear hput heq
                go_quiet (fail)
                rename_i nq
                clear hq
                go_upto_region 14 with fail
                obtain ⟨wp, hwp⟩ : ∃ wp, wq.drewN nq = wp := ⟨_, rfl⟩
                have hbp : Below wq.heap.size wq wp := by rw [← hwp]; exact below_drewN (Below.refl _ _) _
                have HMP := Lib.hid (HMQ.out.next hbp)
                have HKP := Lib.hid (HKZ.out.below hbp HKZ.out.lt)
                have HH9 : Hid (∀ w9 own9, SMm w w9 bn g c N k1 k2 k3 own9 → Blk w9 bz 47 #[.int .i64 z.v.c, .int .i64 z.v.s, .int .i64 z.r, .int .i64 z.a] → w9.cell? ⟨bn, 3, none⟩ = some (.slice (some ⟨br, offr, none⟩) nR rc) ∧ w9.cell? ⟨br, offr + k * 6 + 1, none⟩ = some (.int .i64 h) ∧ w9.cell? ⟨bz, 0, none⟩ = some (.int .i64 z.v.c) ∧ w9.cell? ⟨bz, 1, none⟩ = some (.int .i64 z.v.s) ∧ w9.cell? ⟨bz, 2, none⟩ = some (.int .i64 z.r) ∧ w9.cell? ⟨bz, 3, none⟩ = some (.int .i64 z.a)) := fun w9 own9 K Z => by
                  refine ⟨?_, ?_, Z.cell 0, Z.cell 1, Z.cell 2, Z.cell 3⟩
                  · have := K.k1.cell 3
                    rw [← HK.out.1, HRA.out] at this
                    simpa using this
                  · have h1 := K.below.cell (p := ⟨br, offr + k * 6 + 1, none⟩) hBR.out
                    have h2 := HMQ.out.below.cell (p := ⟨br, offr + k * 6 + 1, none⟩) hBR.out
                    rw [h1, ← h2]
                    exact hp1
                have B8 : Below wp.heap.size wp wp.drew := (Below.refl _ _).drew
                have D8 := HMP.out.ow
                have q0 := D8.frozen (h * 4)
                have q1 := D8.frozen (h * 4 + 1)
                have q2 := D8.frozen (h * 4 + 2)
                have q3 := D8.frozen (h * 4 + 3)
                obtain ⟨x', hx', y0, y1, y2, y3⟩ := D8.cell hhN
                obtain ⟨s0, s1, s2, s3, s4, s5⟩ := HH9.out _ _ HMP.out HKP.out
                rw [hwp]
                clear hwp hbp D8 hx' n3 x0 x1 x2 x3 z0 z1 z2 z3 HMQ HKZ
                go_region
                all_goals
                  go_wp2_with fail
                  go_roundw
                  case rel =>
                    refine ⟨k + 1, own.set h z, true, by omega, by go_num, rfl, (HMP.out.next B8).put hhN z, HPUT.out.1, ⟨fun hb => by simp at hb, fun _ => ?_⟩⟩
                    have h3 := HPUT.out.2
                    cases b with
                    | true => have := HP.out.2 rfl; omega
                    | false => rw [← (HP.out.1 rfl).1]; exact h3
                  case measure => simp [intOf]; omega
end Go.Proofs.YthakcefgbggkcaaDoor
