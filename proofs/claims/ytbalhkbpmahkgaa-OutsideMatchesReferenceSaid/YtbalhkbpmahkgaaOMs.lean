/- The solver's contract. -/
import Derived.Test.YtbalhkbpmahkgaaOMc
import Derived.StillTailTactics
namespace Go.Proofs.Ytbalhkbpmahkgaa
open Go.RowKit

abbrev ldU (p : Operand) : Op := .load 28 p
theorem ldU_eq (p : Operand) : Op.load 28 p = ldU p := rfl

set_option maxRecDepth 100000 in
set_option maxHeartbeats 20000000 in
theorem solve_any (w : World) (N ce B : Nat) (E : Option Addr) (es : List Ed) (hE : HG w B E es.length es) (hB : B ≤ w.heap.size) (hes : ∀ e ∈ es, e.Ok N) (hN : N ≤ 30) (hM : es.length ≤ 60) :
    Calls Try.prog 44 #[.agg #[.int .i64 N, .slice E es.length ce]] w (SolvePost w N es) := by
  obtain ⟨M, hMM⟩ : ∃ M, es.length = M := ⟨_, rfl⟩
  rw [hMM] at hM ⊢
  have HE := Lib.hid (hE.more hB)
  have HES := Lib.hid hes
  clear hE hes
  have hv := run_make_vls N (by omega)
  have hb := mk_bools N (by omega)
  have ho := mk_ints M (by omega)
  have hoN := mk_ints N (by omega)
  have hu := mk_urs N (by omega)
  go_enter Try.func44, Try.ntmps44
  go_upto_region 1 with fail
  obtain ⟨w1, hw1⟩ : ∃ w1, w.alloc (.cells #[.int .i64 N, .slice E M ce] 24) = w1 := ⟨_, rfl⟩
  rw [hw1]
  have KH : Blk w1 w.heap.size 24 #[.int .i64 N, .slice E M ce] := by rw [← hw1]; exact Blk.new' w _ _ rfl
  have hb1 : Below w.heap.size w w1 := by rw [← hw1]; exact (Below.refl _ _).alloc (Nat.le_refl _) _
  have hs1 : w1.heap.size = w.heap.size + 1 := by rw [← hw1]; simp
  clear hw1
  have HB1 := Lib.hid hb1
  obtain ⟨bh, hbh⟩ : ∃ bh, w.heap.size = bh := ⟨_, rfl⟩
  have HS0 := Lib.hid (show w1.drew.cell? ⟨bh, 0, none⟩ = some (.int .i64 N) ∧ w1.drew.cell? ⟨bh, 1, none⟩ = some (.slice E M ce) from by rw [← hbh]; exact ⟨KH.cell 0, KH.cell 1⟩)
  rw [hbh] at KH
  have HKH := Lib.hid KH
  have HBH := Lib.hid hbh
  clear KH hb1
  rw [hbh]
  go_cut [4] (fun x4 wx => ∃ sb va sa oa ua : Nat, x4 = .pointer (some ⟨sb, 0, none⟩) ∧ Parts w1 wx sb va sa oa ua N M E ce)
  case first =>
    go_region_held3 (fun w' => w'.cell? ⟨bh, 0, none⟩ = some (.int .i64 N) ∧ w'.cell? ⟨bh, 1, none⟩ = some (.slice E M ce))
      (first | with_reducible exact HS0.out | (refine S_alloc ?_ _; assumption) | (refine S_alloc_drew ?_ _; assumption)) (fail)
    all_goals
      go_wp2_with fail
      go_meet
      refine' parts_leaf (Blk.drew1 ?_) (Blk.drew1 ?_) (Blk.drew1 ?_) (Blk.drew1 ?_) (Blk.drew1 ?_) ?_ ?_
      · refine Blk.new' _ _ _ ?_
        (first | omega | (simp only [World.size_alloc]; omega) | (simp; omega))
      · repeat (first | (with_reducible refine Blk.new' _ _ _ ?_; (first | omega | (simp only [World.size_alloc]; omega) | (simp; omega))) | refine Blk.alloc ?_ _)
      · repeat (first | (with_reducible refine Blk.new' _ _ _ ?_; (first | omega | (simp only [World.size_alloc]; omega) | (simp; omega))) | refine Blk.alloc ?_ _)
      · repeat (first | (with_reducible refine Blk.new' _ _ _ ?_; (first | omega | (simp only [World.size_alloc]; omega) | (simp; omega))) | refine Blk.alloc ?_ _)
      · repeat (first | (with_reducible refine Blk.new' _ _ _ ?_; (first | omega | (simp only [World.size_alloc]; omega) | (simp; omega))) | refine Blk.alloc ?_ _)
      · omega
      · exact below_drew1 ((((((Below.refl _ _).alloc (Nat.le_refl _) _).alloc (by simp only [World.size_alloc]; omega) _).alloc (by simp only [World.size_alloc]; omega) _).alloc (by simp only [World.size_alloc]; omega) _).alloc (by simp only [World.size_alloc]; omega) _)
  case rest =>
    clear hv hb ho hu HS0
    obtain ⟨sb, va, sa, oa, ua, rfl, hP⟩ := hcut
    rename World => w2
    have hs12 := hP.below.size
    have hsb6 := hP.kS.cell 6
    have HKH2 := Lib.hid (HKH.out.below hP.below (by omega))
    have HP := Lib.hid hP
    clear hP hsb6
    go_wp2_with fail
    refine (newq_any w2).mono ?_
    rintro e w3 ⟨rfl, ⟨F, hq⟩, hb3⟩
    have c6 := (HP.out.kS.below hb3 HP.out.kS.lt).cell 6
    have z6 := (HP.out.kS.below hb3 HP.out.kS.lt).frozen 6
    simp at c6
    obtain ⟨q, hqe⟩ : ∃ q, w2.heap.size + 1 = q := ⟨_, rfl⟩
    rw [hqe] at hq ⊢
    obtain ⟨a, haa⟩ : ∃ a : SA, (⟨w.heap.size, sb, va, sa, oa, ua, q, E, ce, N, es, List.replicate N noUr⟩ : SA) = a := ⟨_, rfl⟩
    have HSM : Hid (SM (w3.setCell ⟨sb, 6, none⟩ (.pointer (some ⟨q, 0, none⟩))) a F (List.replicate N ⟨0, 0⟩) (List.replicate N false) (List.replicate M 0) [] 0) := by
      rw [← haa, ← hMM]
      rw [← hMM] at HP
      exact parts_sm HP.out (by rw [hMM]; rw [hMM] at HE; exact HE.out.below HB1.out) HB1.out.size hq hb3
    have HKH3 : Hid (PB (w3.setCell ⟨sb, 6, none⟩ (.pointer (some ⟨q, 0, none⟩))) F bh 24 #[.int .i64 N, .slice E M ce]) := by
      refine ⟨(HKH2.out.below hb3 HKH2.out.lt).far (Blk.ne_ HKH2.out HP.out.kS (by decide)) _, fun hf => ?_⟩
      have := (hq.2 _ hf).1
      omega
    have HB3 : Hid (Below w.heap.size w (w3.setCell ⟨sb, 6, none⟩ (.pointer (some ⟨q, 0, none⟩)))) := parts_below HP.out HB1.out hb3 _
    clear HP HKH2 HKH hq hb3
    go_upto_region 3 with fail
    have e1 : sb = a.sb := by rw [← haa]
    have e2 : va = a.va := by rw [← haa]
    have e3 : sa = a.sa := by rw [← haa]
    have e4 : oa = a.oa := by rw [← haa]
    have e5 : ua = a.ua := by rw [← haa]
    have e6 : q = a.q := by rw [← haa]
    have aN : a.N = N := by rw [← haa]
    have aM : a.es.length = M := by rw [← haa]; exact hMM
    have aes : a.es = es := by rw [← haa]
    have abase : a.base = bh := by rw [← haa]; exact hbh
    have aus : a.us = List.replicate N noUr := by rw [← haa]
    clear haa
    subst e1 e2 e3 e4 e5 e6
    obtain ⟨w4, hw4⟩ : ∃ w4, w3.setCell ⟨a.sb, 6, none⟩ (.pointer (some ⟨a.q, 0, none⟩)) = w4 := ⟨_, rfl⟩
    rw [hw4] at HSM HKH3 HB3 ⊢
    have c0 := HKH3.out.1.cell 0
    simp at c0
    have hs4 := HB3.out.size
    clear hw4 c6 z6 hqe
    clear hs12 hs1
    go_upto_region 4 with fail
    obtain ⟨w5, hw5⟩ : ∃ w5, w4.alloc (.cells (ints (List.replicate N 0)).toArray 3) = w5 := ⟨_, rfl⟩
    rw [hw5]
    have HSM5 : Hid (SM w5 a F (vini N 0) (List.replicate N false) (List.replicate M 0) [] 0) := by
      rw [← hw5]
      have : vini N 0 = List.replicate N ⟨0, 0⟩ := by simp [vini]
      rw [this]
      exact HSM.out.alloc _
    have HKH5 : Hid (PB w5 F bh 24 #[.int .i64 N, .slice E M ce]) := by rw [← hw5]; exact HKH3.out.below ((Below.refl _ _).alloc (Nat.le_refl _) _)
    have HKA5 : Hid (PB w5 F w4.heap.size 3 (ints (eini N 0)).toArray) := by
      rw [← hw5]
      have : eini N 0 = List.replicate N 0 := by simp [eini]
      rw [this]
      exact HSM.out.hQ.new _ _
    have HB5 : Hid (Below w.heap.size w w5) := by rw [← hw5]; exact HB3.out.alloc hs4 _
    have hl1 := HSM.out.kS.1.lt
    have hl2 := HSM.out.kV.1.lt
    have hl3 := HSM.out.kB.1.lt
    have hl4 := HSM.out.kO.1.lt
    have hl5 := HSM.out.kU.1.lt
    have hl6 := HKH3.out.1.lt
    obtain ⟨ea, hea⟩ : ∃ ea, w4.heap.size = ea := ⟨_, rfl⟩
    have hs5 : w5.heap.size = ea + 1 := by rw [← hw5, ← hea]; simp
    rw [hea] at HKA5 hl1 hl2 hl3 hl4 hl5 hl6 ⊢
    have HLT := Lib.hid (show a.sb < ea ∧ a.va < ea ∧ a.sa < ea ∧ a.oa < ea ∧ a.ua < ea ∧ bh < ea ∧ w.heap.size ≤ ea from ⟨hl1, hl2, hl3, hl4, hl5, hl6, by omega⟩)
    have q2 := (HSM5.out.cs aN aM).1
    clear hl1 hl2 hl3 hl4 hl5 hl6 hw5 HSM HKH3 HB3 c0 hs4 hs5 hoN
    go_wp2_with fail
    go_loopw [45] (fun x wr => ∃ i : Nat, i ≤ N ∧ x = .int .i64 i ∧ Hid (SM wr a F (vini N i) (List.replicate N false) (List.replicate M 0) [] 0) ∧ Hid (PB wr F bh 24 #[.int .i64 N, .slice E M ce]) ∧ Hid (PB wr F ea 3 (ints (eini N i)).toArray) ∧ Hid (Below w.heap.size w wr)) (fun x _ => N - (intOf x).toNat)
    case atStart => exact ⟨0, Nat.zero_le _, rfl, HSM5, HKH5, HKA5, HB5⟩
    case round =>
      obtain ⟨i, hi, rfl, HSMR, HKHR, HKAR, HBR⟩ := hrel
      clear HSM5 HKH5 HKA5 HB5 q2
      by_cases hlt : i < N
      case pos => as_aux_lemma =>
        have hltD : decide (i < N) = true := by simp [hlt]
        obtain ⟨q2, _, _, _, _⟩ := HSMR.out.cs aN aM
        obtain ⟨vi, hvi⟩ : ∃ vi, (vini N i)[i]? = some vi := ⟨_, List.getElem?_eq_getElem (by rw [vini_len hi]; exact hlt)⟩
        obtain ⟨v0, v1⟩ := HSMR.out.kV.1.vl_at hvi
        have z0 := HSMR.out.kV.1.frozen (i * 2)
        have z1 := HSMR.out.kV.1.frozen (i * 2 + 1)
        obtain ⟨ei, hei⟩ : ∃ ei, (eini N i)[i]? = some ei := ⟨_, List.getElem?_eq_getElem (by rw [eini_len hi]; exact hlt)⟩
        have x0 : wr.cell? ⟨ea, i, none⟩ = some (.int .i64 ei) := by rw [HKAR.out.1.cell]; simp [ints, hei]
        have y0 := HKAR.out.1.frozen i
        obtain ⟨n1, n2, n3, n4, n5, n6, n7⟩ := HLT.out
        have nva : ¬ a.va = ea := by omega
        have hsv := HSMR.out.setV (k := i) (by rw [aN]; exact hlt) vtop
        have hv2 : (vini N i).set i vtop = vini N (i + 1) := ini_set hlt
        have he2 : (eini N i).set i (-1) = eini N (i + 1) := ini_set hlt
        rw [hv2] at hsv
        have hsr := HBR.out.size
        have HSM6 : Hid (SM (((wr.setCell ⟨a.va, i * 2, none⟩ (.int .i64 1099511627776)).setCell ⟨a.va, i * 2 + 1, none⟩ (.int .i64 0)).setCell ⟨ea, i, none⟩ (.int .i64 (-1))) a F (vini N (i + 1)) (List.replicate N false) (List.replicate M 0) [] 0) :=
          hsv.farCell HKAR.out.2 (by omega) (by omega) (by omega) (by omega) (by omega) (by omega) (fun u hu b hb => by rw [aus] at hu; obtain ⟨_, rfl⟩ := List.mem_replicate.1 hu; simp [noUr] at hb) _
        have HKA6 : Hid (PB (((wr.setCell ⟨a.va, i * 2, none⟩ (.int .i64 1099511627776)).setCell ⟨a.va, i * 2 + 1, none⟩ (.int .i64 0)).setCell ⟨ea, i, none⟩ (.int .i64 (-1))) F ea 3 (ints (eini N (i + 1))).toArray) := by
          rw [← he2]
          exact ((HKAR.out.far (p := ⟨a.va, i * 2, none⟩) (fun e => nva e.symm) _).far (p := ⟨a.va, i * 2 + 1, none⟩) (fun e => nva e.symm) _).set_ints i (-1)
        have HKH6 : Hid (PB (((wr.setCell ⟨a.va, i * 2, none⟩ (.int .i64 1099511627776)).setCell ⟨a.va, i * 2 + 1, none⟩ (.int .i64 0)).setCell ⟨ea, i, none⟩ (.int .i64 (-1))) F bh 24 #[.int .i64 N, .slice E M ce]) :=
          ((HKHR.out.far (p := ⟨a.va, i * 2, none⟩) (Blk.ne_ HKHR.out.1 HSMR.out.kV.1 (by decide)) _).far (p := ⟨a.va, i * 2 + 1, none⟩) (Blk.ne_ HKHR.out.1 HSMR.out.kV.1 (by decide)) _).far (p := ⟨ea, i, none⟩) (by show bh ≠ ea; omega) _
        have hlo := HSMR.out.lo
        have HB6 : Hid (Below w.heap.size w (((wr.setCell ⟨a.va, i * 2, none⟩ (.int .i64 1099511627776)).setCell ⟨a.va, i * 2 + 1, none⟩ (.int .i64 0)).setCell ⟨ea, i, none⟩ (.int .i64 (-1)))) :=
          ((HBR.out.setCell (p := ⟨a.va, i * 2, none⟩) (by show w.heap.size ≤ a.va; omega) _).setCell (p := ⟨a.va, i * 2 + 1, none⟩) (by show w.heap.size ≤ a.va; omega) _).setCell (p := ⟨ea, i, none⟩) (by show w.heap.size ≤ ea; omega) _
        clear hsv hv2 he2 hvi hei
        go_wp2_with fail
        go_roundw
        case rel => exact ⟨i + 1, by omega, by go_num, HSM6, HKH6, HKA6, HB6⟩
        case measure => simp [intOf]; omega
      case neg =>
        have hltD : decide (i < N) = false := by simp [hlt]
        obtain rfl : N = i := by omega
        clear hlt hi
        have c1 := HKHR.out.1.cell 1
        simp at c1
        go_wp2_with fail
        have haw : a.wu (List.replicate N noUr) = a := by rw [← aus]; rfl
        obtain ⟨b0, hb0⟩ : ∃ b0, wr.heap.size = b0 := ⟨_, rfl⟩
        have hSS := HSMR.out
        rw [← haw] at hSS
        have HS0 : Hid (SM wr (a.wu (List.replicate N noUr)) F (vini N N) (List.replicate N false) (oini es 0) [] 0) := by
          have : oini es 0 = List.replicate M 0 := by simp [oini, hMM]
          rw [this]
          exact hSS
        have HFB : Hid (∀ k, F k → k < b0) := fun k hk => by have := (hSS.hQ.2 k hk).2; omega
        have HLB : Hid (a.sb < b0 ∧ a.va < b0 ∧ a.sa < b0 ∧ a.oa < b0 ∧ a.ua < b0) := ⟨by have := HSMR.out.kS.1.lt; omega, by have := HSMR.out.kV.1.lt; omega, by have := HSMR.out.kB.1.lt; omega, by have := HSMR.out.kO.1.lt; omega, by have := HSMR.out.kU.1.lt; omega⟩
        have hle0 : ea < b0 := by have := HKAR.out.1.lt; omega
        have HEB := Lib.hid hle0
        have HR0 : Hid (URows wr b0 (List.replicate N noUr)) := URows.start wr b0 N
        have HB0 : Hid (b0 ≤ wr.heap.size) := by rw [hb0]; exact Nat.le_refl _
        clear hSS haw hle0 hb0 HSMR
        rename World => w8
        obtain ⟨ino, hino, hz0, hz1, hz2⟩ := info_parts infoI1
        go_loopw [62] (fun x wr => ∃ k : Nat, k ≤ M ∧ x = .int .i64 k ∧ ∃ us : List Ur, Hid (SM wr (a.wu us) F (vini N N) (List.replicate N false) (oini es k) [] 0) ∧ Hid (URows wr b0 us) ∧ Hid (Usp N us es k 0) ∧ Hid (PB wr F bh 24 #[.int .i64 N, .slice E M ce]) ∧ Hid (PB wr F ea 3 (ints (eini N N)).toArray) ∧ Hid (Below w.heap.size w wr) ∧ Hid (b0 ≤ wr.heap.size)) (fun x _ => M - (intOf x).toNat)
        case atStart => exact ⟨0, Nat.zero_le _, rfl, _, HS0, HR0, usp_start N es, HKHR, HKAR, HBR, HB0⟩
        case round =>
          obtain ⟨k, hk, rfl, us, HSM1, HR1, HU1, HKH1, HKA1, HBW1, HBZ1⟩ := hrel
          clear HS0 HR0 HKHR HKAR HBR HB0 c1
          by_cases hlt : k < M
          case neg =>
            have hltD : decide (k < M) = false := by simp [hlt]
            obtain rfl : M = k := by omega
            clear hlt hk
            have hvi : vini N N = List.replicate N vtop := by simp [vini]
            have hoi : oini es M = es.map fun e => (e.ts.length : Int) := by rw [← hMM, oini_end]
            rw [hvi, hoi] at HSM1
            have q4 : wr.cell? ⟨a.sb, 4, none⟩ = some (.slice (some ⟨a.oa, 0, none⟩) M M) := (HSM1.out.cs aN aM).2.2.1
            have HUE : Hid (Usp N us es es.length 0) := by rw [hMM]; exact HU1
            go_wp2_with fail
            clear q4 HR1 HU1 HBZ1 HEB hvi hoi hino hz0 hz1 hz2
            rename World => w10
            have HI0 : Hid (Inv N es 0 [] (List.replicate N vtop) (List.replicate N false) (es.map fun e => (e.ts.length : Int)) [] ⟨0, 0⟩) := Inv.start N es
            go_loopw [106] (fun x wr => ∃ k : Nat, k ≤ M ∧ x = .int .i64 k ∧ ∃ (G : Nat → Prop) (L : List Ent) (nx : Nat), nx ≤ k ∧ Hid (SM wr (a.wu us) G (List.replicate N vtop) (List.replicate N false) (es.map fun e => (e.ts.length : Int)) L nx) ∧ Hid (Inv N es k [] (List.replicate N vtop) (List.replicate N false) (es.map fun e => (e.ts.length : Int)) L ⟨0, 0⟩) ∧ Hid (PB wr G bh 24 #[.int .i64 N, .slice E M ce]) ∧ Hid (PB wr G ea 3 (ints (eini N N)).toArray) ∧ Hid (Below w.heap.size w wr)) (fun x _ => M - (intOf x).toNat)
            case atStart => exact ⟨0, Nat.zero_le _, rfl, F, [], 0, Nat.le_refl _, HSM1, HI0, HKH1, HKA1, HBW1⟩
            case round =>
              obtain ⟨k, hk, rfl, G, L, nx, hnx, HSM2, HI2, HKH2, HKA2, HBW2⟩ := hrel
              clear HSM1 HI0 HKH1 HKA1 HBW1
              by_cases hlt : k < M
              case neg =>
                have hltD : decide (k < M) = false := by simp [hlt]
                obtain rfl : M = k := by omega
                clear hlt hk
                have HI2' : Hid (Inv N es es.length [] (List.replicate N vtop) (List.replicate N false) (es.map fun e => (e.ts.length : Int)) L ⟨0, 0⟩) := by rw [hMM]; exact HI2
                have hnx2 : nx + opn (es.map fun e => (e.ts.length : Int)) ≤ 2 * M := by have := opn_le (es.map fun e => (e.ts.length : Int)); simp at this; omega
                clear hnx HI2
                go_wp2_with fail
                rename World => w14
                go_loopw [14] (fun _ wr => ∃ (G : Nat → Prop) (V : List Vl) (S : List Bool) (O : List Int) (L : List Ent) (nx : Nat) (Mv : Vl), nx + opn O ≤ 2 * M ∧ Hid (SM wr (a.wu us) G V S O L nx) ∧ Hid (Inv N es es.length [] V S O L Mv) ∧ Hid (PB wr G bh 24 #[.int .i64 N, .slice E M ce]) ∧ Hid (PB wr G ea 3 (ints (eini N N)).toArray) ∧ Hid (Below w.heap.size w wr)) (fun _ wr => meas wr a)
                case atStart => exact ⟨G, _, _, _, L, nx, _, hnx2, HSM2, HI2', HKH2, HKA2, HBW2⟩
                case round =>
                  obtain ⟨G, V, S, O, L, nx, Mv, hnx, HSM3, HI3, HKH3, HKA3, HBW3⟩ := hrel
                  clear HSM2 HI2' HKH2 HKA2 HBW2 hnx2
                  have hme0 : meas wr (a.wu us) = L.length + opn O := meas_eq HSM3.out
                  have hme : meas wr a = L.length + opn O := hme0
                  have HME := Lib.hid hme
                  have q6 : wr.cell? ⟨a.sb, 6, none⟩ = some (.pointer (some ⟨a.q, 0, none⟩)) := (HSM3.out.cs aN aM).2.2.2.2
                  clear hme hme0
                  cases L with
                  | nil => as_aux_lemma =>
                    have hSl : S.length = N := by have h1 : S.length = a.N := HSM3.out.lS; omega
                    have hVl : V.length = N := by have h1 : V.length = a.N := HSM3.out.lV; omega
                    have HSOL : Hid (Sol es (gv V)) := HI3.out.done HES.out hSl
                    have HFS : Hid (∀ (i : Nat) (s : Bool), S[i]? = some s → (s = true ↔ (gv V i).c < 1099511627776)) := fun i s hs => by
                      cases s with
                      | true => exact ⟨fun _ => (HI3.out.set_ i hs).1, fun _ => rfl⟩
                      | false => rw [HI3.out.unset i (by rw [hs]; simp)]; exact ⟨fun h => by simp at h, fun h => absurd h (by decide)⟩
                    have HVO : Hid (∀ v ∈ V, Ordy v) := HI3.out.vord
                    clear HME
                    go_wp2_with fail
                    refine (popq_none HSM3.out.hQ).mono ?_
                    rintro e w15 ⟨rfl, hb4⟩
                    have HSM4 := Lib.hid (HSM3.out.below hb4)
                    have HKH4 := Lib.hid (HKH3.out.below hb4)
                    have HKA4 := Lib.hid (HKA3.out.below hb4)
                    have HBW4 : Hid (Below w.heap.size w w15) := HBW3.out.trans (hb4.mono HBW3.out.size)
                    clear hb4 q6 HI3 hnx HSM3 HKH3 HKA3 HBW3
                    have c1 : (w15.alloc (.cells #[.int .i64 0, .int .i64 0, .int .i64 0] 87)).cell? ⟨bh, 1, none⟩ = some (.slice E M ce) := (HKH4.out.1.alloc _).cell 1
                    have HB5 : Hid (Below w.heap.size w (w15.alloc (.cells #[.int .i64 0, .int .i64 0, .int .i64 0] 87))) := HBW4.out.alloc HBW4.out.size _
                    have HSM5 := Lib.hid (HSM4.out.alloc (.cells #[.int .i64 0, .int .i64 0, .int .i64 0] 87))
                    have HKH5 : Hid (PB (w15.alloc (.cells #[.int .i64 0, .int .i64 0, .int .i64 0] 87)) G bh 24 #[.int .i64 N, .slice E M ce]) := HKH4.out.below ((Below.refl _ _).alloc (Nat.le_refl _) _)
                    have HKA5 : Hid (PB (w15.alloc (.cells #[.int .i64 0, .int .i64 0, .int .i64 0] 87)) G ea 3 (ints (chs (gv V) (es.take 0) N)).toArray) := by
                      have : chs (gv V) (es.take 0) N = eini N N := by rw [List.take_zero, chs_nil]; simp [eini]
                      rw [this]
                      exact HKA4.out.below ((Below.refl _ _).alloc (Nat.le_refl _) _)
                    clear HSM4 HKH4 HKA4 HBW4
                    go_wp2_with fail
                    obtain ⟨w16, hw16⟩ : ∃ w16, w15.alloc (.cells #[.int .i64 0, .int .i64 0, .int .i64 0] 87) = w16 := ⟨_, rfl⟩
                    rw [hw16] at HSM5 HKH5 HKA5 HB5 ⊢
                    have HKS5 : Hid (Blk w16 a.sb 84 a.cells) := HSM5.out.kS.1
                    have HKV5 : Hid (Blk w16 a.va 38 (vls V).toArray) := HSM5.out.kV.1
                    have HKB5 : Hid (Blk w16 a.sa 4 (bools S).toArray) := HSM5.out.kB.1
                    have HLO : Hid (w.heap.size ≤ a.va) := by have h1 : a.base ≤ a.va := HSM5.out.lo.2.1; have := HBH.out; show w.heap.size ≤ a.va; omega
                    clear hw16 HSM5
                    go_loopw [152] (fun x wr => ∃ k : Nat, k ≤ M ∧ x = .int .i64 k ∧ Hid (Blk wr a.sb 84 a.cells) ∧ Hid (Blk wr a.va 38 (vls V).toArray) ∧ Hid (Blk wr a.sa 4 (bools S).toArray) ∧ Hid (Blk wr bh 24 #[.int .i64 N, .slice E M ce]) ∧ Hid (Blk wr ea 3 (ints (chs (gv V) (es.take k) N)).toArray) ∧ Hid (Below w.heap.size w wr)) (fun x _ => M - (intOf x).toNat)
                    case atStart => exact ⟨0, Nat.zero_le _, rfl, HKS5, HKV5, HKB5, HKH5.out.1, HKA5.out.1, HB5⟩
                    case round =>
                      obtain ⟨k, hk, rfl, HKS6, HKV6, HKB6, HKH6, HKA6, HBW6⟩ := hrel
                      clear HKS5 HKV5 HKB5 HKH5 HKA5 HB5 c1
                      by_cases hlt : k < M
                      case neg =>
                        have hltD : decide (k < M) = false := by simp [hlt]
                        obtain rfl : M = k := by omega
                        have hte : es.take M = es := by rw [← hMM]; exact List.take_length
                        rw [hte] at HKA6
                        have q2 : wr.cell? ⟨a.sb, 2, none⟩ = some (.slice (some ⟨a.va, 0, none⟩) N N) := by have := HKS6.out.cell 2; simpa [SA.cells, aN] using this
                        clear hte
                        go_wp2_with fail
                        go_ret2
                        exact ⟨a.va, ea, V, rfl, hVl, HKV6.out, HKA6.out, HSOL.out, HLO.out, HLT.out.2.2.2.2.2.2, HBW6.out⟩
                      case pos =>
                        have hltD : decide (k < M) = true := by simp [hlt]
                        obtain ⟨b, off, e, hE', hb, he, p0, p1, p2, p3, p4, hR⟩ := (HE.out.below HBW6.out).at_ (by rw [hMM]; exact hlt)
                        subst hE'
                        have HRd := Lib.hid hR
                        have HEk := Lib.hid he
                        have heok := HES.out e (List.mem_of_getElem? he)
                        obtain ⟨n, hn⟩ := Int.eq_ofNat_of_zero_le heok.hd.1
                        have hnN : n < N := by have := heok.hd.2; omega
                        have hbl : b < wr.heap.size := by have := HBW6.out.size; omega
                        have HOKE := Lib.hid heok
                        have c1 : wr.cell? ⟨bh, 1, none⟩ = some (.slice (some ⟨b, off, none⟩) M ce) := HKH6.out.cell 1
                        clear hR he heok
                        rw [hn] at p0
                        have HN := Lib.hid hn
                        clear hn
                        go_upto_region 33 with fail
                        obtain ⟨w17, hw17⟩ : ∃ w17, wr.alloc (.cells #[.int .i64 (n : Nat), .slice e.A e.ts.length e.c, .int .i64 e.cost, .int .i64 e.l0, .int .i64 e.l1] 48) = w17 := ⟨_, rfl⟩
                        obtain ⟨be, hbe⟩ : ∃ be, wr.heap.size = be := ⟨_, rfl⟩
                        have HKE : Hid (Blk w17 be 48 #[.int .i64 (n : Nat), .slice e.A e.ts.length e.c, .int .i64 e.cost, .int .i64 e.l0, .int .i64 e.l1]) := by rw [← hw17, ← hbe]; exact Blk.new' wr _ _ rfl
                        have hxb : Below wr.heap.size wr w17 := by rw [← hw17]; exact (Below.refl _ _).alloc (Nat.le_refl _) _
                        have HKS7 := Lib.hid (HKS6.out.below hxb HKS6.out.lt)
                        have HKV7 := Lib.hid (HKV6.out.below hxb HKV6.out.lt)
                        have HKB7 := Lib.hid (HKB6.out.below hxb HKB6.out.lt)
                        have HKH7 := Lib.hid (HKH6.out.below hxb HKH6.out.lt)
                        have HKA7 := Lib.hid (HKA6.out.below hxb HKA6.out.lt)
                        have HBW7 : Hid (Below w.heap.size w w17) := HBW6.out.trans (hxb.mono HBW6.out.size)
                        have HRd7 := Lib.hid (HRd.out.below (hxb.mono HBW6.out.size))
                        rw [hw17, hbe]
                        have hbe1 : ea < be := by have := HKA6.out.lt; omega
                        have HBE := Lib.hid hbe1
                        clear hw17 hbe hxb HKS6 HKV6 HKB6 HKH6 HKA6 HBW6 HRd p0 p1 p2 p3 p4 hbl hb c1 hbe1
                        obtain ⟨ck, hck⟩ : ∃ ck, cho (gv V) (es.take k) n = ck := ⟨_, rfl⟩
                        obtain ⟨sn, hsn⟩ : ∃ sn, S[n]? = some sn := ⟨_, List.getElem?_eq_getElem (by omega)⟩
                        obtain ⟨vn, hvn⟩ : ∃ vn, gv V n = vn := ⟨_, rfl⟩
                        have hvi : V[n]? = some vn := by rw [← hvn, gv, List.getElem?_eq_getElem (by omega)]; rfl
                        have hcs : (chs (gv V) (es.take k) N)[n]? = some ck := by rw [chs_at hnN, hck]
                        have x0 : w17.cell? ⟨ea, n, none⟩ = some (.int .i64 ck) := by rw [HKA7.out.cell]; simp [ints, hcs]
                        have HFN := HFS.out n sn hsn
                        rw [hvn] at HFN
                        have HCK := Lib.hid hck
                        have HVN := Lib.hid hvn
                        have HFN1 := Lib.hid HFN
                        have hno : (ck < 0 → sn = true → ev (gv V) e ≠ vn) → chs (gv V) (es.take (k + 1)) N = chs (gv V) (es.take k) N := fun h => chs_same HEk.out (fun hc => by
                          rw [HN.out, Int.toNat_natCast, HCK.out, att_iff, HN.out, Int.toNat_natCast, HVN.out] at hc
                          exact h hc.1 (HFN1.out.2 hc.2.1) hc.2.2)
                        have HNO := Lib.hid hno
                        have k0 : w17.cell? ⟨be, 0, none⟩ = some (.int .i64 (n : Nat)) := HKE.out.cell 0
                        have s3 : w17.cell? ⟨a.sb, 3, none⟩ = some (.slice (some ⟨a.sa, 0, none⟩) N N) := by have := HKS7.out.cell 3; simpa [SA.cells, aN] using this
                        have s4 : w17.cell? ⟨a.sa, n, none⟩ = some (.bool sn) := by rw [HKB7.out.cell]; simp [bools, hsn]
                        clear hck hvn HFN hno hcs hsn
                        by_cases hc0 : ck < 0
                        case neg =>
                          have hckD : decide (ck < 0) = false := by simp [hc0]
                          have hsame := HNO.out (fun h => absurd h hc0)
                          have HSA := Lib.hid hsame
                          clear hc0 hsame hvi
                          go_quiet (fail)
                          go_wp2_with fail
                          go_roundw
                          case rel => exact ⟨k + 1, by omega, by go_num, HKS7, HKV7, HKB7, HKH7, by rw [HSA.out]; exact HKA7, below_drewN HBW7.out _⟩
                          case measure => simp [intOf]; omega
                        case pos =>
                          have hckD : decide (ck < 0) = true := by simp [hc0]
                          cases sn with
                          | false =>
                            have hsame := HNO.out (fun _ h => by simp at h)
                            have HSA := Lib.hid hsame
                            clear hc0 hsame hvi
                            go_quiet (fail)
                            go_wp2_with fail
                            go_roundw
                            case rel => exact ⟨k + 1, by omega, by go_num, HKS7, HKV7, HKB7, HKH7, by rw [HSA.out]; exact HKA7, below_drewN HBW7.out _⟩
                            case measure => simp [intOf]; omega
                          | true =>
                            obtain ⟨y, hy⟩ : ∃ y, ev (gv V) e = y := ⟨_, rfl⟩
                            have HCALL : Hid (∀ u : Ext w17, Calls Try.prog 54 #[.pointer (some ⟨a.sb, 0, none⟩), .agg #[.int .i64 (n : Nat), .slice e.A e.ts.length e.c, .int .i64 e.cost, .int .i64 e.l0, .int .i64 e.l1]] u.W fun e' w' => e' = .returned (.agg #[.int .i64 y.c, .int .i64 y.s]) ∧ Below u.W.heap.size u.W w') := fun u => by
                              rw [← hy]
                              have hs2 : w17.cell? ⟨a.sb, 2, none⟩ = some (.slice (some ⟨a.va, 0, none⟩) N N) := by have := HKS7.out.cell 2; simpa [SA.cells, aN] using this
                              exact scombine_any u.W a.sb a.va N N w.heap.size N V e.A e.c n e.cost e.l0 e.l1 e.ts (ext_cell hs2 u) (HKV7.out.below u.h HKV7.out.lt) hVl.symm (by omega) (HRd7.out.below (u.h.mono HBW7.out.size)) (Nat.le_trans HBW7.out.size u.h.size) HOKE.out.ts HOKE.out.cost.1 HOKE.out.few HVO.out
                            have HY := Lib.hid hy
                            have hE := run_eql_vl
                            obtain ⟨v0, v1⟩ := HKV7.out.vl_at hvi
                            have s2 : w17.cell? ⟨a.sb, 2, none⟩ = some (.slice (some ⟨a.va, 0, none⟩) N N) := by have := HKS7.out.cell 2; simpa [SA.cells, aN] using this
                            have x0' := ext_cell x0
                            have k0' := ext_cell k0
                            have k1' := ext_cell (show w17.cell? ⟨be, 1, none⟩ = some (.slice e.A e.ts.length e.c) from HKE.out.cell 1)
                            have k2' := ext_cell (show w17.cell? ⟨be, 2, none⟩ = some (.int .i64 e.cost) from HKE.out.cell 2)
                            have k3' := ext_cell (show w17.cell? ⟨be, 3, none⟩ = some (.int .i64 e.l0) from HKE.out.cell 3)
                            have k4' := ext_cell (show w17.cell? ⟨be, 4, none⟩ = some (.int .i64 e.l1) from HKE.out.cell 4)
                            have s2' := ext_cell s2
                            have s3' := ext_cell s3
                            have s4' := ext_cell s4
                            have v0' := ext_cell v0
                            have v1' := ext_cell v1
                            clear x0 k0 s2 s3 s4 v0 v1 hy hvi
                            by_cases hat : y = vn
                            case neg =>
                              have hatD : (decide (y.c = vn.c) && decide (y.s = vn.s)) = false := by
                                cases h : (decide (y.c = vn.c) && decide (y.s = vn.s)) with
                                | false => rfl
                                | true => simp only [Bool.and_eq_true, decide_eq_true_eq] at h; exact absurd (Vl.ext' h.1 h.2) hat
                              have hsame := HNO.out (fun _ _ => by rw [HY.out]; exact hat)
                              have HSA := Lib.hid hsame
                              clear hat hsame hc0
                              refine wp_region_ext (by kernel_rfl) (by kernel_rfl) ?_
                              repeat (go_big_quiet_step (exact calls_ext (HCALL.out _)))
                              refine wpQuiet_nil ?_
                              rintro _ ⟨u, rfl⟩
                              go_wp2_with fail
                              go_roundw
                              case rel => exact ⟨k + 1, by omega, by go_num, HKS7.out.below u.h HKS7.out.lt, HKV7.out.below u.h HKV7.out.lt, HKB7.out.below u.h HKB7.out.lt, HKH7.out.below u.h HKH7.out.lt, by rw [HSA.out]; exact HKA7.out.below u.h HKA7.out.lt, HBW7.out.trans (u.h.mono HBW7.out.size)⟩
                              case measure => simp [intOf]; omega
                            case pos =>
                              have hatD : (decide (y.c = vn.c) && decide (y.s = vn.s)) = true := by rw [hat]; simp
                              have hset : (chs (gv V) (es.take k) N).set n (k : Int) = chs (gv V) (es.take (k + 1)) N := chs_set HEk.out (by rw [HN.out]; rfl) (by rw [HCK.out]; exact hc0) (by
                                rw [att_iff, HN.out, Int.toNat_natCast, HVN.out, HY.out]
                                exact ⟨HFN1.out.1 rfl, hat⟩)
                              have HSET := Lib.hid hset
                              clear hat hset hc0
                              refine wp_region_ext (by kernel_rfl) (by kernel_rfl) ?_
                              repeat (go_big_quiet_step (exact calls_ext (HCALL.out _)))
                              refine wpQuiet_nil ?_
                              rintro _ ⟨u, rfl⟩
                              have f0 := x0' u
                              have f1 := k0' u
                              have z0 : u.W.frozen? ⟨ea, n, none⟩ = false := (HKA7.out.below u.h HKA7.out.lt).frozen n
                              clear x0' k0' k1' k2' k3' k4' s2' s3' s4' v0' v1'
                              go_wp2_with fail
                              go_roundw
                              case rel =>
                                have n0 := HLT.out
                                refine ⟨k + 1, by omega, by go_num, (HKS7.out.below u.h HKS7.out.lt).far (p := ⟨ea, n, none⟩) (by show a.sb ≠ ea; omega) _, (HKV7.out.below u.h HKV7.out.lt).far (p := ⟨ea, n, none⟩) (by show a.va ≠ ea; omega) _, (HKB7.out.below u.h HKB7.out.lt).far (p := ⟨ea, n, none⟩) (by show a.sa ≠ ea; omega) _, (HKH7.out.below u.h HKH7.out.lt).far (p := ⟨ea, n, none⟩) (by show bh ≠ ea; omega) _, ?_, (HBW7.out.trans (u.h.mono HBW7.out.size)).setCell (p := ⟨ea, n, none⟩) (by show w.heap.size ≤ ea; omega) _⟩
                                rw [← HSET.out]
                                have := (HKA7.out.below u.h HKA7.out.lt).set_ n (.int .i64 (k : Nat))
                                have e2 : (ints ((chs (gv V) (es.take k) N).set n (k : Int))).toArray = (ints (chs (gv V) (es.take k) N)).toArray.setIfInBounds n (.int .i64 (k : Nat)) := by simp [ints, List.map_set]
                                rw [e2]
                                exact this
                              case measure => simp [intOf]; omega
                  | cons x0 Lr => as_aux_lemma =>
                    obtain ⟨m, L', hmin, hperm⟩ := popq_first HSM3.out.hQ (by simp)
                    have HMIN := Lib.hid hmin
                    have HPERM := Lib.hid hperm
                    have hqm := HI3.out.que m hmin.1
                    obtain ⟨n, hn⟩ := Int.eq_ofNat_of_zero_le hqm.1
                    have hnN : n < N := by have := hqm.2.1; omega
                    have HND := Lib.hid HSM3.out.hQ.ok.td
                    have HQM := Lib.hid hqm
                    clear hmin hperm hqm
                    go_wp2_with fail
                    refine (popq_any HSM3.out.hQ HMIN.out HPERM.out).mono ?_
                    rintro e w15 ⟨rfl, G', h4, s4⟩
                    have HSM4 := Lib.hid (HSM3.out.step s4 h4)
                    have HKH4 := Lib.hid (PB.step (base := (a.wu us).base) HKH3.out s4)
                    have HKA4 := Lib.hid (PB.step (base := (a.wu us).base) HKA3.out s4)
                    have e1 : w.heap.size = (a.wu us).base := by show _ = a.base; rw [abase]; exact HBH.out
                    have HBW4 : Hid (Below w.heap.size w w15) := by
                      have h2 := s4.below HSM3.out.bs
                      rw [← e1] at h2
                      exact HBW3.out.trans h2
                    clear h4 s4 q6
                    rw [hn]
                    go_upto_region 28 with fail
                    obtain ⟨w16, hw16⟩ : ∃ w16, w15.alloc (.cells #[.int .i64 (n : Nat), .int .i64 m.cost, .int .i64 m.size] 87) = w16 := ⟨_, rfl⟩
                    have HKC : Hid (PB w16 G' w15.heap.size 87 #[.int .i64 (n : Nat), .int .i64 m.cost, .int .i64 m.size]) := by rw [← hw16]; exact HSM4.out.hQ.new _ _
                    have hxb : Below w15.heap.size w15 w16 := by rw [← hw16]; exact (Below.refl _ _).alloc (Nat.le_refl _) _
                    have HSM5 := Lib.hid (HSM4.out.below hxb)
                    have HKH5 := Lib.hid (HKH4.out.below hxb)
                    have HKA5 := Lib.hid (HKA4.out.below hxb)
                    have HBW5 : Hid (Below w.heap.size w w16) := HBW4.out.trans (hxb.mono HBW4.out.size)
                    try rw [hw16]
                    try simp only [Int.ofNat_eq_natCast]
                    try rw [hw16]
                    clear hw16 hxb HSM4 HKH4 HKA4 HBW4
                    obtain ⟨bx, hbx⟩ : ∃ bx, w15.heap.size = bx := ⟨_, rfl⟩
                    rw [hbx] at HKC ⊢
                    clear hbx
                    obtain ⟨sn, hsn⟩ : ∃ sn, S[n]? = some sn := ⟨_, List.getElem?_eq_getElem (by have h1 : S.length = a.N := HSM5.out.lS; omega)⟩
                    have HSN := Lib.hid hsn
                    have k0 : w16.cell? ⟨bx, 0, none⟩ = some (.int .i64 (n : Nat)) := HKC.out.1.cell 0
                    have s3 : w16.cell? ⟨a.sb, 3, none⟩ = some (.slice (some ⟨a.sa, 0, none⟩) N N) := (HSM5.out.cs aN aM).2.1
                    have s4 : w16.cell? ⟨a.sa, n, none⟩ = some (.bool sn) := HSM5.out.bool_at hsn
                    clear hsn
                    go_quiet (fail)
                    obtain ⟨w17, hw17⟩ : ∃ w17, w16.drewN nq = w17 := ⟨_, rfl⟩
                    try rw [hw17]
                    have hxb : Below w16.heap.size w16 w17 := by rw [← hw17]; exact below_drewN (Below.refl _ _) _
                    have HSM6 := Lib.hid (HSM5.out.below hxb)
                    have HKC6 := Lib.hid (HKC.out.below hxb)
                    have HKH6 := Lib.hid (HKH5.out.below hxb)
                    have HKA6 := Lib.hid (HKA5.out.below hxb)
                    have HBW6 : Hid (Below w.heap.size w w17) := HBW5.out.trans (hxb.mono HBW5.out.size)
                    clear hxb hw17 HSM5 HKC HKH5 HKA5 HBW5 k0 s3 s4
                    have hlen : L'.length + 1 = (x0 :: Lr).length := by have := HPERM.out.length_eq; simp at this; simp; omega
                    cases sn with
                    | true =>
                      have HI6 := Lib.hid (HI3.out.drop HMIN.out HPERM.out HND.out (by rw [hn]; exact HSN.out))
                      go_wp2_with fail
                      go_roundw
                      case rel => exact ⟨G', V, S, O, L', nx, m.v, hnx, HSM6, HI6, HKH6, HKA6, HBW6⟩
                      case measure =>
                        have e2 : meas w17 (a.wu us) = L'.length + opn O := meas_eq HSM6.out
                        have e3 : meas w17 a = L'.length + opn O := e2
                        rw [HME.out, e3]
                        omega
                    | false =>
                      obtain ⟨u, hu, hul, huk, huc⟩ := usp_end HUE.out hnN
                      have hVl : V.length = N := by have h1 : V.length = a.N := HSM6.out.lV; omega
                      have hSl : S.length = N := by have h1 : S.length = a.N := HSM6.out.lS; omega
                      have hOl : O.length = es.length := by have h1 : O.length = a.es.length := HSM6.out.lO; rw [aes] at h1; exact h1
                      have HI6 := Lib.hid (HI3.out.take (rest := u.l) HES.out hVl hSl HMIN.out HPERM.out HND.out hn HSN.out huc)
                      have HIF := Lib.hid (HI6.out.fold (nx := nx) HES.out (by rw [List.length_set]; exact hSl) (fun k hk => ⟨huk k hk, fun e he => by
                        have h1 : 0 < u.l.count k := List.count_pos_iff.2 hk
                        rw [huc k e he] at h1
                        have h2 : (n : Int) ∈ e.ts := List.count_pos_iff.1 h1
                        have h3 := ev_sup HI6.out.nV (HES.out e (List.mem_of_getElem? he)).cost.1 h2
                        rw [Int.toNat_natCast, gv_set (by omega), if_pos rfl] at h3
                        exact h3⟩))
                      have HUu := Lib.hid hu
                      have HUK := Lib.hid huk
                      have k0 : w17.cell? ⟨bx, 0, none⟩ = some (.int .i64 (n : Nat)) := HKC6.out.1.cell 0
                      have k1 : w17.cell? ⟨bx, 1, none⟩ = some (.int .i64 m.cost) := HKC6.out.1.cell 1
                      have k2 : w17.cell? ⟨bx, 2, none⟩ = some (.int .i64 m.size) := HKC6.out.1.cell 2
                      have haes : (a.wu us).es = es := aes
                      have hnxb : nx + u.l.length < 100000000 := by omega
                      clear hu huk huc HI6
                      go_wp2_with fail
                      refine (settle_any w17 (a.wu us) G' V S O L' nx n m.v u HSM6.out (by show n < a.N; omega) HUu.out (by omega) (by rw [haes]; exact HUK.out) (by rw [haes]; show ∀ e ∈ es, e.Ok a.N; rw [aN]; exact HES.out) HI3.out.vord HQM.out.2.2.2.2.1 (HI3.out.obd hOl HES.out) hnxb).mono ?_
                      rintro x w18 ⟨v', rfl, G8, hsm8, hst8⟩
                      rw [haes] at hsm8
                      have HSM8 := Lib.hid hsm8
                      have nb1 : bh ≠ a.va := by have := HLT.out; have := Blk.ne_ HKH6.out.1 HSM6.out.kV.1 (by decide); exact this
                      have nb2 : bh ≠ a.sa := Blk.ne_ HKH6.out.1 HSM6.out.kB.1 (by decide)
                      have nb3 : bh ≠ a.oa := Blk.ne_ HKH6.out.1 HSM6.out.kO.1 (by decide)
                      have HKH8 := Lib.hid (PB.stp HKH6.out hst8 nb1 nb2 nb3)
                      have HKA8 := Lib.hid (PB.stp HKA6.out hst8 (by have := HLT.out; show ea ≠ a.va; omega) (by have := HLT.out; show ea ≠ a.sa; omega) (by have := HLT.out; show ea ≠ a.oa; omega))
                      have HBW8 : Hid (Below w.heap.size w w18) := by
                        have h2 := hst8.below HSM6.out.bs
                        rw [← e1] at h2
                        exact HBW6.out.trans h2
                      clear hsm8 hst8 nb1 nb2 nb3 k0 k1 k2
                      go_wp2_with fail
                      go_roundw
                      case rel => exact ⟨G8, _, _, _, _, _, m.v, by have := HIF.out.2.2; omega, HSM8, HIF.out.1, HKH8, HKA8, HBW8⟩
                      case measure =>
                        have e2 : meas w18 (a.wu us) = _ := meas_eq HSM8.out
                        have e3 : meas w18 a = _ := e2
                        rw [HME.out, e3]
                        have := HIF.out.2.1
                        omega
              case pos => as_aux_lemma =>
                have hltD : decide (k < M) = true := by simp [hlt]
                obtain ⟨b, off, e, hE', hb, he, p0, p1, p2, p3, p4, hR⟩ := (HE.out.below HBW2.out).at_ (by rw [hMM]; exact hlt)
                have HEE := Lib.hid hE'
                have hoe : (es.map fun e => (e.ts.length : Int))[k]? = some (e.ts.length : Int) := by rw [List.getElem?_map, he]; rfl
                have o0 : wr.cell? ⟨a.oa, k, none⟩ = some (.int .i64 (e.ts.length : Int)) := HSM2.out.open_at hoe
                have g1 : wr.cell? ⟨bh, 1, none⟩ = some (.slice (some ⟨b, off, none⟩) M ce) := by rw [← hE']; exact HKH2.out.1.cell 1
                have HHE := Lib.hid he
                clear p0 p2 p3 p4 hR hE' hoe
                by_cases hz : e.ts = []
                case neg =>
                  have hnD : ((e.ts.length : Int) == 0) = false := by
                    have : e.ts.length ≠ 0 := fun e1 => hz (List.eq_nil_of_length_eq_zero e1)
                    simp; exact hz
                  have HI3 := Lib.hid (HI2.out.skip HHE.out hz)
                  clear hz
                  go_wp2_with fail
                  go_roundw
                  case rel => exact ⟨k + 1, by omega, by go_num, G, L, nx, by omega, HSM2, HI3, HKH2, HKA2, HBW2⟩
                  case measure => simp [intOf]; omega
                case pos =>
                  have hz0 : e.ts.length = 0 := by rw [hz]; rfl
                  rw [hz0] at o0 p1
                  have HI3 := Lib.hid (HI2.out.first (nx := nx) HES.out (by simp) HHE.out)
                  clear hz hz0
                  go_wp2_with fail
                  refine (offer_any wr (a.wu us) G _ _ _ L nx k e HSM2.out (by show a.es[k]? = _; rw [aes]; exact HHE.out) (by show e.Ok a.N; rw [aN]; exact HES.out e (List.mem_of_getElem? HHE.out)) (fun v hv => by obtain ⟨_, rfl⟩ := List.mem_replicate.1 hv; exact Nrm.top.1) (by omega)).mono ?_
                  rintro x w11 ⟨v', rfl, G5, hsm5, hst5⟩
                  have HSM5 := Lib.hid hsm5
                  have HKH5 := Lib.hid (PB.step (base := (a.wu us).base) HKH2.out hst5)
                  have HKA5 := Lib.hid (PB.step (base := (a.wu us).base) HKA2.out hst5)
                  have HB5 : Hid (Below w.heap.size w w11) := by
                    have e1 : w.heap.size = (a.wu us).base := by show _ = a.base; rw [abase]; exact HBH.out
                    have h2 := hst5.below HSM2.out.bs
                    rw [← e1] at h2
                    exact HBW2.out.trans h2
                  have hnn : offN (List.replicate N vtop) (List.replicate N false) e nx ≤ k + 1 := by unfold offN; split <;> omega
                  clear hsm5 hst5
                  go_wp2_with fail
                  go_roundw
                  case rel => exact ⟨k + 1, by omega, by go_num, G5, _, _, hnn, HSM5, HI3, HKH5, HKA5, HB5⟩
                  case measure => simp [intOf]; omega
          case pos => as_aux_lemma =>
            have hltD : decide (k < M) = true := by simp [hlt]
            obtain ⟨b, off, e, hE', hb, he, p0, p1, p2, p3, p4, hR⟩ := (HE.out.below HBW1.out).at_ (by rw [hMM]; exact hlt)
            subst hE'
            have HRd := Lib.hid hR
            have hbl : b < wr.heap.size := by have := HBW1.out.size; omega
            clear hR
            go_upto_region 13 with fail
            obtain ⟨w6, hw6⟩ : ∃ w6, wr.alloc (.cells #[.int .i64 e.hd, .slice e.A e.ts.length e.c, .int .i64 e.cost, .int .i64 e.l0, .int .i64 e.l1] 48) = w6 := ⟨_, rfl⟩
            rw [hw6]
            have hxb : Below wr.heap.size wr w6 := by rw [← hw6]; exact (Below.refl _ _).alloc (Nat.le_refl _) _
            have HSM6 := Lib.hid (HSM1.out.below hxb)
            have HR6 := Lib.hid (HR1.out.below hxb)
            have HKH6 := Lib.hid (HKH1.out.below hxb)
            have HKA6 := Lib.hid (HKA1.out.below hxb)
            have HKE6 : Hid (PB w6 F wr.heap.size 48 #[.int .i64 e.hd, .slice e.A e.ts.length e.c, .int .i64 e.cost, .int .i64 e.l0, .int .i64 e.l1]) := by rw [← hw6]; exact HSM1.out.hQ.new _ _
            have HBW6 : Hid (Below w.heap.size w w6) := HBW1.out.trans (hxb.mono HBW1.out.size)
            have HBZ6 : Hid (b0 ≤ w6.heap.size) := Nat.le_trans HBZ1.out hxb.size
            have HRd6 := Lib.hid (HRd.out.below (hxb.mono HBW1.out.size))
            obtain ⟨be, hbe⟩ : ∃ be, wr.heap.size = be := ⟨_, rfl⟩
            have HBE : Hid (b0 ≤ be) := by rw [← hbe]; exact HBZ1.out
            rw [hbe] at HKE6 ⊢
            clear HSM1 HR1 HKH1 HKA1 HBW1 HBZ1 HRd hw6 hxb hbl p0 p1 p2 p3 p4 hbe
            obtain ⟨n, hn⟩ : ∃ n, e.ts.length = n := ⟨_, rfl⟩
            rw [hn] at HKE6 HRd6
            have hn4 : n ≤ 4 := by rw [← hn]; exact (HES.out e (List.mem_of_getElem? he)).few
            have q4 : w6.cell? ⟨a.sb, 4, none⟩ = some (.slice (some ⟨a.oa, 0, none⟩) M M) := (HSM6.out.cs aN aM).2.2.1
            have r1 : w6.cell? ⟨be, 1, none⟩ = some (.slice e.A n e.c) := HKE6.out.1.cell 1
            obtain ⟨ok, hok⟩ : ∃ ok, (oini es k)[k]? = some ok := ⟨_, List.getElem?_eq_getElem (by rw [oini_len (by omega)]; omega)⟩
            have o0 : w6.cell? ⟨a.oa, k, none⟩ = some (.int .i64 ok) := HSM6.out.open_at hok
            have oz : w6.frozen? ⟨a.oa, k, none⟩ = false := HSM6.out.kO.1.frozen k
            have nso : ¬ a.oa = a.sb := HSM6.out.nes.2.2.1
            have neo : a.oa ≠ be := by have := HLB.out; have := HBE.out; omega
            have HFA := Lib.hid (show w6.drew.cell? ⟨a.sb, 4, none⟩ = some (.slice (some ⟨a.oa, 0, none⟩) M M) ∧ w6.drew.cell? ⟨be, 1, none⟩ = some (.slice e.A n e.c) from ⟨q4, r1⟩)
            have HFC := Lib.hid (show (World.drew (w6.setCell ⟨a.oa, k, none⟩ (.int .i64 n))).cell? ⟨a.sb, 4, none⟩ = some (.slice (some ⟨a.oa, 0, none⟩) M M) ∧ (World.drew (w6.setCell ⟨a.oa, k, none⟩ (.int .i64 n))).cell? ⟨be, 1, none⟩ = some (.slice e.A n e.c) from ⟨(World.cell?_setCell_far _ _ _ _ nso).trans q4, (World.cell?_setCell_far _ _ _ _ neo).trans r1⟩)
            have hset := oini_set he
            rw [hn] at hset
            have HSM7 : Hid (SM (World.drew (w6.setCell ⟨a.oa, k, none⟩ (.int .i64 n))) (a.wu us) F (vini N N) (List.replicate N false) (oini es (k + 1)) [] 0) := by
              rw [← hset]
              exact (HSM6.out.setO k n).drewN 1
            have HR7 : Hid (URows (World.drew (w6.setCell ⟨a.oa, k, none⟩ (.int .i64 n))) b0 us) := HR6.out.touch (X := fun g => g = a.oa) (((Touch.refl (fun g => g = a.oa) w6).setCell (p := ⟨a.oa, k, none⟩) (.inl rfl) _).drew1) (fun g hg => by have := HLB.out; omega)
            have HKH7 : Hid (PB (World.drew (w6.setCell ⟨a.oa, k, none⟩ (.int .i64 n))) F bh 24 #[.int .i64 N, .slice (some ⟨b, off, none⟩) M ce]) := HKH6.out.far (p := ⟨a.oa, k, none⟩) (Blk.ne_ HKH6.out.1 HSM6.out.kO.1 (by decide)) _
            have HKA7 : Hid (PB (World.drew (w6.setCell ⟨a.oa, k, none⟩ (.int .i64 n))) F ea 3 (ints (eini N N)).toArray) := HKA6.out.far (p := ⟨a.oa, k, none⟩) (by have := HLT.out; show ea ≠ a.oa; omega) _
            have HKE7 : Hid (PB (World.drew (w6.setCell ⟨a.oa, k, none⟩ (.int .i64 n))) F be 48 #[.int .i64 e.hd, .slice e.A n e.c, .int .i64 e.cost, .int .i64 e.l0, .int .i64 e.l1]) := HKE6.out.far (p := ⟨a.oa, k, none⟩) (fun e => neo e.symm) _
            have HBW7 : Hid (Below w.heap.size w (World.drew (w6.setCell ⟨a.oa, k, none⟩ (.int .i64 n)))) := below_drew1 (HBW6.out.setCell (p := ⟨a.oa, k, none⟩) (by have h1 : a.base ≤ a.oa := HSM6.out.lo.2.2.2.1; show w.heap.size ≤ a.oa; omega) _)
            have HBZ7 : Hid (b0 ≤ (World.drew (w6.setCell ⟨a.oa, k, none⟩ (.int .i64 n))).heap.size) := by
              show b0 ≤ (w6.setCell _ _).heap.size
              simp only [World.setCell]
              simpa using HBZ6.out
            have HRd7 : Hid (Reads (World.drew (w6.setCell ⟨a.oa, k, none⟩ (.int .i64 n))) w.heap.size 1 e.A n (ints e.ts)) := HRd6.out.setCell (p := ⟨a.oa, k, none⟩) (by have h1 : a.base ≤ a.oa := HSM6.out.lo.2.2.2.1; show w.heap.size ≤ a.oa; omega) _
            clear HSM6 HR6 HKH6 HKA6 HKE6 HBW6 HBZ6 HRd6 hset
            clear q4 r1
            go_region_held3 (fun w' => w'.cell? ⟨a.sb, 4, none⟩ = some (.slice (some ⟨a.oa, 0, none⟩) M M) ∧ w'.cell? ⟨be, 1, none⟩ = some (.slice e.A n e.c))
              (first | with_reducible exact HFA.out | with_reducible exact HFC.out) (fail)
            obtain ⟨w7, hw7⟩ : ∃ w7, World.drew (w6.setCell ⟨a.oa, k, none⟩ (.int .i64 n)) = w7 := ⟨_, rfl⟩
            rw [hw7] at HSM7 HR7 HKH7 HKA7 HKE7 HBW7 HBZ7 HRd7 ⊢
            have r1 : w7.cell? ⟨be, 1, none⟩ = some (.slice e.A n e.c) := HKE7.out.1.cell 1
            clear HFA HFC o0 oz hok hw7 nso neo
            go_wp2_with fail
            rename World => w7x
            have htso := tsO_at he
            have HUa : Hid (Usp N us es k 0) := HU1
            clear HU1
            go_loopw [79] (fun x wr => ∃ i : Nat, i ≤ n ∧ x = .int .i64 i ∧ ∃ us : List Ur, Hid (SM wr (a.wu us) F (vini N N) (List.replicate N false) (oini es (k + 1)) [] 0) ∧ Hid (URows wr b0 us) ∧ Hid (Usp N us es k i) ∧ Hid (PB wr F bh 24 #[.int .i64 N, .slice (some ⟨b, off, none⟩) M ce]) ∧ Hid (PB wr F ea 3 (ints (eini N N)).toArray) ∧ Hid (Below w.heap.size w wr) ∧ Hid (b0 ≤ wr.heap.size) ∧ Hid (Reads wr w.heap.size 1 e.A n (ints e.ts))) (fun x _ => n - (intOf x).toNat)
            case atStart => exact ⟨0, Nat.zero_le _, rfl, us, HSM7, HR7, HUa, HKH7, HKA7, HBW7, HBZ7, HRd7⟩
            case round =>
              obtain ⟨i, hi, rfl, us, HSM8, HR8, HU8, HKH8, HKA8, HBW8, HBZ8, HRd8⟩ := hrel
              clear HSM7 HR7 HUa HKH7 HKA7 HBW7 HBZ7 HRd7 HKE7 r1
              by_cases hli : i < n
              case neg =>
                have hliD : decide (i < n) = false := by simp [hli]
                obtain rfl : n = i := by omega
                have HU9 : Hid (Usp N us es (k + 1) 0) := usp_next HU8.out (by rw [htso, hn]) hn4
                clear HU8
                go_wp2_with fail
                go_roundw
                case rel => exact ⟨k + 1, by omega, by go_num, us, HSM8, HR8, HU9, HKH8, HKA8, HBW8, HBZ8⟩
                case measure => simp [intOf]; omega
              case pos => as_aux_lemma =>
                have hliD : decide (i < n) = true := by simp [hli]
                have hti : e.ts[i]? = some e.ts[i] := List.getElem?_eq_getElem (by omega)
                obtain ⟨ti, hti2⟩ : ∃ ti, e.ts[i] = ti := ⟨_, rfl⟩
                rw [hti2] at hti
                obtain ⟨t0, t1⟩ := (HES.out e (List.mem_of_getElem? he)).ts ti (List.mem_of_getElem? hti)
                obtain ⟨t, rfl⟩ := Int.eq_ofNat_of_zero_le t0
                have htN : t < N := by omega
                obtain ⟨bt, ot, heA, _, p0⟩ := HRd8.out.int_at hli
                rw [hti] at p0
                simp only [Option.getD_some] at p0
                rw [heA]
                obtain ⟨u, hu⟩ : ∃ u, us[t]? = some u := ⟨_, List.getElem?_eq_getElem (by have h1 : us.length = a.N := HSM8.out.lU; omega)⟩
                have HUu := Lib.hid hu
                clear hti2
                go_upto_region 17 with fail
                obtain ⟨uA, uc, ul⟩ := u
                obtain ⟨m, hm⟩ : ∃ m, ul.length = m := ⟨_, rfl⟩
                have HM := Lib.hid hm
                have hml : m ≤ 300 := by
                  obtain ⟨u', hu', hl, _⟩ := HU8.out t htN
                  rw [HUu.out] at hu'
                  injection hu' with hu'
                  subst hu'
                  have : ul.length ≤ 4 * k + i := hl
                  omega
                have q5 : wr.cell? ⟨a.sb, 5, none⟩ = some (.slice (some ⟨a.ua, 0, none⟩) N N) := (HSM8.out.cs aN aM).2.2.2.1
                have u0 : wr.cell? ⟨a.ua, t, none⟩ = some (.slice uA ul.length uc) := HSM8.out.uses_at HUu.out
                rw [hm] at u0
                have HSMA : Hid (SM ((wr.alloc (.cells #[.int .i64 k] 3)).drew) (a.wu us) F (vini N N) (List.replicate N false) (oini es (k + 1)) [] 0) := (HSM8.out.alloc _).drewN 1
                have HRA : Hid (URows ((wr.alloc (.cells #[.int .i64 k] 3)).drew) b0 us) := HR8.out.below (below_drew1 ((Below.refl _ _).alloc (Nat.le_refl _) _))
                have uz : ((wr.alloc (.cells #[.int .i64 k] 3)).drew).frozen? ⟨a.ua, t, none⟩ = false := HSMA.out.kU.1.frozen t
                have u0a : (wr.alloc (.cells #[.int .i64 k] 3)).cell? ⟨a.ua, t, none⟩ = some (.slice uA m uc) := by
                  have : ((wr.alloc (.cells #[.int .i64 k] 3)).drew).cell? ⟨a.ua, t, none⟩ = some (.slice uA ul.length uc) := HSMA.out.uses_at HUu.out
                  rw [hm] at this
                  exact this
                have HOA : Hid (((wr.alloc (.cells #[.int .i64 k] 3)).drew).ownsRow b0 3 1 (.slice uA m uc) m (nats ul)) := by
                  have : ((wr.alloc (.cells #[.int .i64 k] 3)).drew).ownsRow b0 3 1 (.slice uA ul.length uc) ul.length (nats ul) := HRA.out.own t _ HUu.out
                  rw [hm] at this
                  exact this
                have NEWS : Hid (∀ j v, ([.int .i64 (k : Nat)] : List Value)[j]? = some v → ((wr.alloc (.cells #[.int .i64 k] 3)).drew).cell? ((⟨wr.heap.size, 0, none⟩ : Addr).add j) = some v) := fun j v hv => by
                  rw [Addr.add_lit, Nat.zero_add]
                  have h := (Blk.new' wr 3 #[.int .i64 (k : Nat)] rfl).cell j
                  refine Eq.trans h ?_
                  rw [← Array.getElem?_toList]
                  exact hv
                have hsz : Hid (((wr.alloc (.cells #[.int .i64 k] 3)).drew).heap.size = wr.heap.size + 1) := by show (wr.alloc _).heap.size = _; simp
                have hzb : b0 ≤ ((wr.alloc (.cells #[.int .i64 k] 3)).drew).heap.size := by have := HBZ8.out; rw [hsz.out]; omega
                have HZB := Lib.hid hzb
                have HBA : Hid (Below w.heap.size w ((wr.alloc (.cells #[.int .i64 k] 3)).drew)) := below_drew1 (HBW8.out.alloc HBW8.out.size _)
                have HRdA : Hid (Reads ((wr.alloc (.cells #[.int .i64 k] 3)).drew) w.heap.size 1 (some ⟨bt, ot, none⟩) n (ints e.ts)) := by
                  rw [← heA]
                  exact (HRd8.out.alloc HBW8.out.size _).drewN 1
                have HKHA : Hid (PB ((wr.alloc (.cells #[.int .i64 k] 3)).drew) F bh 24 #[.int .i64 N, .slice (some ⟨b, off, none⟩) M ce]) := HKH8.out.below (below_drew1 ((Below.refl _ _).alloc (Nat.le_refl _) _))
                have HKAA : Hid (PB ((wr.alloc (.cells #[.int .i64 k] 3)).drew) F ea 3 (ints (eini N N)).toArray) := HKA8.out.below (below_drew1 ((Below.refl _ _).alloc (Nat.le_refl _) _))
                have HFA := Lib.hid (show wr.drew.cell? ⟨a.sb, 5, none⟩ = some (.slice (some ⟨a.ua, 0, none⟩) N N) from q5)
                have HFB1 := Lib.hid (show ((wr.alloc (.cells #[.int .i64 k] 3)).drew).cell? ⟨a.sb, 5, none⟩ = some (.slice (some ⟨a.ua, 0, none⟩) N N) from (HSMA.out.cs aN aM).2.2.2.1)
                have HNU : Hid (¬ a.ua = a.sb) := HSM8.out.nes.2.2.2.1
                clear q5 hm hzb
                simp only [ldU_eq]
                go_region_held3 (fun w' => w'.cell? ⟨a.sb, 5, none⟩ = some (.slice (some ⟨a.ua, 0, none⟩) N N))
                  (first | with_reducible exact HFA.out | with_reducible exact HFB1.out | with_reducible exact HFC1.out | with_reducible exact HFD1.out)
                  (first | (refine step_append_lies _ (by rfl) _ _ 28 (by rfl) b0 3 ino (.int .i64 0) 1 8 Try.underlying28 hino hz0 hz1 hz2 rfl (by decide) (.slice uA m uc) m (nats ul) (by rfl) HOA.out ⟨wr.heap.size, 0, none⟩ 1 1 [.int .i64 (k : Nat)] (by rfl) (by rfl) NEWS.out (by simp [Value.oneCell']) (by omega) (by unfold maxLen; omega) (by omega) HZB.out (wr.heap.size + 1) hsz.out ?_; intro gg cap w9 hown9 hgrow hat hlt9; have hap := SM.append (t := t) (k := k) (u := ⟨uA, uc, ul⟩) HSMA.out HRA.out HUu.out (by show World.grownBy _ _ (Value.slice uA ul.length uc).ownBlock; rw [HM.out]; exact hgrow) (by show World.ownsRow _ _ _ _ (.slice (some ⟨gg, 0, none⟩) (ul.length + 1) cap) (ul.length + 1) _; rw [HM.out]; exact hown9) (by show (Value.slice uA ul.length uc).ownBlock = _ ∨ _; rw [HM.out, hsz.out]; rcases hat with h | h; exact .inl h; exact .inr (by omega)) HZB.out HLB.out HFB.out; dsimp only at hap; rw [HM.out] at hap; obtain ⟨hsm9, hr9, hb9, hB9⟩ := hap; have HSM9 := Lib.hid hsm9; have HR9 := Lib.hid hr9; have HB9 := Lib.hid hb9; have HBB9 := Lib.hid hB9; have u9 : w9.cell? ⟨a.ua, t, none⟩ = some (.slice uA m uc) := (hB9.cell (p := ⟨a.ua, t, none⟩) HLB.out.2.2.2.2).trans u0a; have z9 : w9.frozen? ⟨a.ua, t, none⟩ = false := (HSMA.out.kU.1.below hB9 HLB.out.2.2.2.2).frozen t; have HFC1 := Lib.hid (show w9.cell? ⟨a.sb, 5, none⟩ = some (.slice (some ⟨a.ua, 0, none⟩) N N) from (hB9.cell (p := ⟨a.sb, 5, none⟩) HLB.out.1).trans HFB1.out); have HFD1 := Lib.hid (show (w9.setCell ⟨a.ua, t, none⟩ (.slice (some ⟨gg, 0, none⟩) (m + 1) cap)).cell? ⟨a.sb, 5, none⟩ = some (.slice (some ⟨a.ua, 0, none⟩) N N) from (World.cell?_setCell_far _ _ _ _ HNU.out).trans HFC1.out); clear hsm9 hr9 hb9 hB9 hown9 hgrow hat hlt9))
                all_goals
                  have HU9 : Hid (Usp N (us.set t ⟨some ⟨gg, 0, none⟩, cap, ul ++ [k]⟩) es k (i + 1)) := usp_step HU8.out (by rw [htso]; exact hti) htN HUu.out _ _
                  have HBS : Hid (w.heap.size = a.base) := by rw [abase]; exact HBH.out
                  have HBf : Hid (Below w.heap.size w (w9.setCell ⟨a.ua, t, none⟩ (.slice (some ⟨gg, 0, none⟩) (m + 1) cap))) := by
                    rw [HBS.out]
                    refine Below.trans ?_ HB9.out
                    rw [← HBS.out]
                    exact HBA.out
                  have HRf : Hid (Reads (w9.setCell ⟨a.ua, t, none⟩ (.slice (some ⟨gg, 0, none⟩) (m + 1) cap)) w.heap.size 1 (some ⟨bt, ot, none⟩) n (ints e.ts)) := by
                    refine Reads.below HRdA.out ?_
                    rw [HBS.out]
                    exact HB9.out
                  have HZf : Hid (b0 ≤ (w9.setCell ⟨a.ua, t, none⟩ (.slice (some ⟨gg, 0, none⟩) (m + 1) cap)).heap.size) := Nat.le_trans HZB.out HB9.out.size
                  have HKHf : Hid (PB (w9.setCell ⟨a.ua, t, none⟩ (.slice (some ⟨gg, 0, none⟩) (m + 1) cap)) F bh 24 #[.int .i64 N, .slice (some ⟨b, off, none⟩) M ce]) :=
                    ⟨(HKHA.out.1.below HBB9.out (by have := HLT.out; have := HEB.out; omega)).far (p := ⟨a.ua, t, none⟩) (Blk.ne_ HKHA.out.1 HSMA.out.kU.1 (by decide)) _, HKHA.out.2⟩
                  have HKAf : Hid (PB (w9.setCell ⟨a.ua, t, none⟩ (.slice (some ⟨gg, 0, none⟩) (m + 1) cap)) F ea 3 (ints (eini N N)).toArray) :=
                    ⟨(HKAA.out.1.below HBB9.out HEB.out).far (p := ⟨a.ua, t, none⟩) (by have := HLT.out; show ea ≠ a.ua; omega) _, HKAA.out.2⟩
                  go_wp2_with fail
                  go_roundw
                  case rel => exact ⟨i + 1, by omega, by go_num, us.set t ⟨some ⟨gg, 0, none⟩, cap, ul ++ [k]⟩, HSM9, HR9, HU9, HKHf, HKAf, HBf, HZf, HRf⟩
                  case measure => simp [intOf]; omega
end Go.Proofs.Ytbalhkbpmahkgaa
