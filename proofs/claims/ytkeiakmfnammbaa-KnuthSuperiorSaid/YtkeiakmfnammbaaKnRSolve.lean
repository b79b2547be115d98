/- The reference's Solve returns the least values and the first hyperedges that attain them. -/
import Derived.Test.YtkeiakmfnammbaaKnRInv
import Derived.Deep.DeepCutAuto
namespace Go.Proofs.Ytkeiakmfnammbaa
open Go.RowKit

set_option maxRecDepth 100000 in
set_option maxHeartbeats 4000000 in
theorem rsolve_any (w : World) (N ce B : Nat) (E : Option Addr) (es : List Ed) (hE : HG w B E es.length es) (hB : B ≤ w.heap.size) (hes : ∀ e ∈ es, e.Ok N) (hN : N ≤ 30) (hM : es.length ≤ 60) :
    Calls Try.prog 21 #[.agg #[.int .i64 N, .slice E es.length ce]] w (SolvePost w N es) := by
  obtain ⟨M, hMM⟩ : ∃ M, es.length = M := ⟨_, rfl⟩
  rw [hMM] at hM ⊢
  have HE := Lib.hid (hE.more hB)
  rw [hMM] at HE
  have HES := Lib.hid hes
  have HMM := Lib.hid hMM
  clear hE hes hMM
  have hv := run_make_vls N (by omega)
  have hoN := mk_ints N (by omega)
  have hEQ := run_eql_vl
  have HEQ := Lib.hid hEQ
  clear hEQ
  go_enter Try.func21, Try.ntmps21
  go_wp2_with fail
  obtain ⟨w1, hw1⟩ : ∃ w1, ((w.alloc (.cells #[.int .i64 N, .slice E M ce] 34)).alloc (.cells (vls (List.replicate N ⟨0, 0⟩)).toArray 23)).alloc (.cells (ints (List.replicate N 0)).toArray 3) = w1 := ⟨_, rfl⟩
  rw [hw1]
  obtain ⟨bh, hbh⟩ : ∃ bh, w.heap.size = bh := ⟨_, rfl⟩
  obtain ⟨va, hva⟩ : ∃ va, bh + 1 = va := ⟨_, rfl⟩
  obtain ⟨ea, hea⟩ : ∃ ea, va + 1 = ea := ⟨_, rfl⟩
  have HKH1 : Hid (Blk w1 bh 34 #[.int .i64 N, .slice E M ce]) := by rw [← hw1]; exact ((Blk.new' w _ _ hbh).alloc _).alloc _
  have HKV1 : Hid (Blk w1 va 23 (vls (vini N 0)).toArray) := by
    have : vini N 0 = List.replicate N ⟨0, 0⟩ := by simp [vini]
    rw [← hw1, this]; exact (Blk.new' _ _ _ (by simp; omega)).alloc _
  have HKA1 : Hid (Blk w1 ea 3 (ints (eini N 0)).toArray) := by
    have : eini N 0 = List.replicate N 0 := by simp [eini]
    rw [← hw1, this]; exact Blk.new' _ _ _ (by simp; omega)
  have HB1 : Hid (Below w.heap.size w w1) := by rw [← hw1]; exact (((Below.refl _ _).alloc (Nat.le_refl _) _).alloc (by simp) _).alloc (by simp; omega) _
  have HLT : Hid (w.heap.size ≤ bh ∧ bh < va ∧ va < ea) := ⟨by omega, by omega, by omega⟩
  try rw [hbh]
  try rw [hva]
  try rw [hea]
  clear hw1 hbh hva hea hv hoN
  go_loopw [6] (fun x wr => ∃ i : Nat, i ≤ N ∧ x = .int .i64 i ∧ Hid (Blk wr bh 34 #[.int .i64 N, .slice E M ce]) ∧ Hid (Blk wr va 23 (vls (vini N i)).toArray) ∧ Hid (Blk wr ea 3 (ints (eini N i)).toArray) ∧ Hid (Below w.heap.size w wr)) (fun x _ => N - (intOf x).toNat)
  case atStart => exact ⟨0, Nat.zero_le _, rfl, HKH1, HKV1, HKA1, HB1⟩
  case round =>
    obtain ⟨i, hi, rfl, HKH2, HKV2, HKA2, HB2⟩ := hrel
    clear HKH1 HKV1 HKA1 HB1
    have c0 : wr.cell? ⟨bh, 0, none⟩ = some (.int .i64 N) := HKH2.out.cell 0
    by_cases hlt : i < N
    case pos =>
      have hltD : decide (i < N) = true := by simp [hlt]
      obtain ⟨vi, hvi⟩ : ∃ vi, (vini N i)[i]? = some vi := ⟨_, List.getElem?_eq_getElem (by rw [vini_len hi]; exact hlt)⟩
      obtain ⟨v0, v1⟩ := HKV2.out.vl_at hvi
      have z0 := HKV2.out.frozen (i * 2)
      have z1 := HKV2.out.frozen (i * 2 + 1)
      obtain ⟨ei, hei⟩ : ∃ ei, (eini N i)[i]? = some ei := ⟨_, List.getElem?_eq_getElem (by rw [eini_len hi]; exact hlt)⟩
      have x0 : wr.cell? ⟨ea, i, none⟩ = some (.int .i64 ei) := by rw [HKA2.out.cell]; simp [ints, hei]
      have y0 := HKA2.out.frozen i
      have n0 := HLT.out
      have nva : ¬ va = ea := by omega
      have hv2 : (vini N i).set i vtop = vini N (i + 1) := ini_set hlt
      have he2 : (eini N i).set i (-1) = eini N (i + 1) := ini_set hlt
      have HKV3 : Hid (Blk (((wr.setCell ⟨va, i * 2, none⟩ (.int .i64 1099511627776)).setCell ⟨va, i * 2 + 1, none⟩ (.int .i64 0)).setCell ⟨ea, i, none⟩ (.int .i64 (-1))) va 23 (vls (vini N (i + 1))).toArray) := by
        rw [← hv2]
        exact (HKV2.out.vl_put (by rw [vini_len hi]; exact hlt) vtop).far (p := ⟨ea, i, none⟩) nva _
      have HKA3 : Hid (Blk (((wr.setCell ⟨va, i * 2, none⟩ (.int .i64 1099511627776)).setCell ⟨va, i * 2 + 1, none⟩ (.int .i64 0)).setCell ⟨ea, i, none⟩ (.int .i64 (-1))) ea 3 (ints (eini N (i + 1))).toArray) := by
        rw [← he2]
        have := (((HKA2.out.far (p := ⟨va, i * 2, none⟩) (fun e => nva e.symm) (.int .i64 1099511627776)).far (p := ⟨va, i * 2 + 1, none⟩) (fun e => nva e.symm) (.int .i64 0)).set_ i (.int .i64 (-1)))
        have e2 : (ints ((eini N i).set i (-1))).toArray = (ints (eini N i)).toArray.setIfInBounds i (.int .i64 (-1)) := by simp [ints, List.map_set]
        rw [e2]
        exact this
      have HKH3 : Hid (Blk (((wr.setCell ⟨va, i * 2, none⟩ (.int .i64 1099511627776)).setCell ⟨va, i * 2 + 1, none⟩ (.int .i64 0)).setCell ⟨ea, i, none⟩ (.int .i64 (-1))) bh 34 #[.int .i64 N, .slice E M ce]) :=
        ((HKH2.out.far (p := ⟨va, i * 2, none⟩) (by show bh ≠ va; omega) _).far (p := ⟨va, i * 2 + 1, none⟩) (by show bh ≠ va; omega) _).far (p := ⟨ea, i, none⟩) (by show bh ≠ ea; omega) _
      have HB3 : Hid (Below w.heap.size w (((wr.setCell ⟨va, i * 2, none⟩ (.int .i64 1099511627776)).setCell ⟨va, i * 2 + 1, none⟩ (.int .i64 0)).setCell ⟨ea, i, none⟩ (.int .i64 (-1)))) :=
        ((HB2.out.setCell (p := ⟨va, i * 2, none⟩) (by show w.heap.size ≤ va; omega) _).setCell (p := ⟨va, i * 2 + 1, none⟩) (by show w.heap.size ≤ va; omega) _).setCell (p := ⟨ea, i, none⟩) (by show w.heap.size ≤ ea; omega) _
      clear hv2 he2 hvi hei n0
      go_wp2_with fail
      go_roundw
      case rel => exact ⟨i + 1, by omega, by go_num, HKH3, HKV3, HKA3, HB3⟩
      case measure => simp [intOf]; omega
    case neg =>
      have hltD : decide (i < N) = false := by simp [hlt]
      obtain rfl : N = i := by omega
      clear hlt hi
      have hvi : vini N N = List.replicate N vtop := by simp [vini]
      have hei : eini N N = chB (gv (List.replicate N vtop)) es es.length N := by rw [chB_end]; simp [eini]
      rw [hvi] at HKV2
      have hei2 : eini N N = List.replicate N (-1) := by simp [eini]
      rw [hei2] at HKA2
      have HRI : Hid (RInv es (List.replicate N vtop)) := RInv.start es N
      have HPE : Hid (PassE true es (List.replicate N vtop)) := fun h => by simp at h
      clear hvi hei hei2
      go_wp2_with fail
      clear c0
      rename World => w4
      go_loopw [7] (fun x wr => ∃ (V : List Vl) (b : Bool), x = .bool b ∧ V.length = N ∧ Hid (Blk wr bh 34 #[.int .i64 N, .slice E M ce]) ∧ Hid (Blk wr va 23 (vls V).toArray) ∧ Hid (Blk wr ea 3 (ints (List.replicate N (-1))).toArray) ∧ Hid (Below w.heap.size w wr) ∧ Hid (RInv es V) ∧ Hid (PassE b es V)) (fun x wr => 2 * vmeas wr va + (match x with | .bool true => 1 | _ => 0))
      case atStart => exact ⟨_, true, rfl, by simp, HKH2, HKV2, HKA2, HB2, HRI, HPE⟩
      case round =>
        obtain ⟨V0, b, rfl, hVl0, HKH3, HKV3, HKA3, HB3, HRI3, HP3⟩ := hrel
        clear HKH2 HKV2 HKA2 HB2 HRI HPE
        cases b with
        | false =>
          have HSOL : Hid (Sol es (gv V0)) := HRI3.out.sol (PreK.all (HP3.out rfl))
          have HVO : Hid (∀ v ∈ V0, Ordy v) := HRI3.out.vord
          clear HP3 HRI3
          have hHA : chB (gv V0) es M N = List.replicate N (-1) := by rw [← HMM.out, chB_end]
          rw [← hHA] at HKA3
          have c1 : wr.cell? ⟨bh, 1, none⟩ = some (.slice E M ce) := HKH3.out.cell 1
          clear hHA
          go_wp2_with fail
          rename World => w5
          go_loopw [11] (fun x wr => ∃ (j : Nat) (q : Int), j ≤ M ∧ x = .int .i64 q ∧ Hid (q = (j : Int) - 1) ∧ Hid (Blk wr bh 34 #[.int .i64 N, .slice E M ce]) ∧ Hid (Blk wr va 23 (vls V0).toArray) ∧ Hid (Blk wr ea 3 (ints (chB (gv V0) es j N)).toArray) ∧ Hid (Below w.heap.size w wr)) (fun x _ => (intOf x + 1).toNat)
          case atStart => exact ⟨M, _, Nat.le_refl _, rfl, rfl, HKH3, HKV3, HKA3, HB3⟩
          case round =>
            obtain ⟨j, q, hj, rfl, HQ, HKH4, HKV4, HKA4, HB4⟩ := hrel
            clear HKH3 HKV3 HKA3 HB3 c1
            cases j with
            | zero =>
              obtain rfl : q = -1 := by rw [HQ.out]; rfl
              rw [chB_zero] at HKA4
              have n0 := HLT.out
              go_wp2_with fail
              go_ret2
              exact ⟨va, ea, V0, rfl, hVl0, HKV4.out, HKA4.out, HSOL.out, by omega, by omega, HB4.out⟩
            | succ k =>
              obtain rfl : q = (k : Int) := by rw [HQ.out]; omega
              have hlt : k < M := by omega
              have c1 : wr.cell? ⟨bh, 1, none⟩ = some (.slice E M ce) := HKH4.out.cell 1
              obtain ⟨b', off, e, hE', hb', he, p0, p1, p2, p3, p4, hR⟩ := (HE.out.below HB4.out).at_ hlt
              subst hE'
              have HRd := Lib.hid hR
              have HEk := Lib.hid he
              have heok := HES.out e (List.mem_of_getElem? he)
              obtain ⟨n, hn⟩ := Int.eq_ofNat_of_zero_le heok.hd.1
              have hnN : n < N := by have := heok.hd.2; omega
              have hbl : b' < wr.heap.size := by have := HB4.out.size; omega
              have HOKE := Lib.hid heok
              clear hR he heok
              rw [hn] at p0
              have HN := Lib.hid hn
              clear hn
              obtain ⟨vn, hvn⟩ : ∃ vn, gv V0 n = vn := ⟨_, rfl⟩
              have hvi : V0[n]? = some vn := by rw [← hvn, gv, List.getElem?_eq_getElem (by omega)]; rfl
              obtain ⟨v0, v1⟩ := HKV4.out.vl_at hvi
              have hvlt : va < wr.heap.size := HKV4.out.lt
              have HVN := Lib.hid hvn
              have hgeq : decide ((0 : Int) ≤ (k : Int)) = true := by simp
              clear hvn hvi
              go_upto_region 23 with fail
              obtain ⟨w6, hw6⟩ : ∃ w6, (wr.alloc (.cells #[.int .i64 (n : Nat), .slice e.A e.ts.length e.c, .int .i64 e.cost, .int .i64 e.l0, .int .i64 e.l1] 43)).alloc (.cells #[.int .i64 vn.c, .int .i64 vn.s] 23) = w6 := ⟨_, rfl⟩
              obtain ⟨be, hbe⟩ : ∃ be, wr.heap.size = be := ⟨_, rfl⟩
              have HKE : Hid (Blk w6 be 43 #[.int .i64 (n : Nat), .slice e.A e.ts.length e.c, .int .i64 e.cost, .int .i64 e.l0, .int .i64 e.l1]) := by rw [← hw6, ← hbe]; exact (Blk.new' wr _ _ rfl).alloc _
              have HKY : Hid (Blk w6 (be + 1) 23 #[.int .i64 vn.c, .int .i64 vn.s]) := by rw [← hw6, ← hbe]; exact Blk.new' _ _ _ (by simp)
              have hxb : Below wr.heap.size wr w6 := by rw [← hw6]; exact ((Below.refl _ _).alloc (Nat.le_refl _) _).alloc (by simp) _
              have HKH5 := Lib.hid (HKH4.out.below hxb HKH4.out.lt)
              have HKV5 := Lib.hid (HKV4.out.below hxb HKV4.out.lt)
              have HKA5 := Lib.hid (HKA4.out.below hxb HKA4.out.lt)
              have HB5 : Hid (Below w.heap.size w w6) := HB4.out.trans (hxb.mono HB4.out.size)
              have HRd5 := Lib.hid (HRd.out.below (hxb.mono HB4.out.size))
              rw [hw6, hbe]
              clear hw6 hbe hxb HKH4 HKV4 HKA4 HB4 HRd p0 p1 p2 p3 p4 hbl hb' c1 v0 v1 hvlt hgeq
              obtain ⟨L, hL⟩ : ∃ L, tlv (gv V0) e.ts = L := ⟨_, rfl⟩
              obtain ⟨y, hy⟩ : ∃ y, comb e.cost L = y := ⟨_, rfl⟩
              have hey : ev (gv V0) e = y := by rw [← hy, ← hL]; rfl
              have hatt : att (gv V0) e = (decide (vn.c < 1099511627776) && (decide (y.c = vn.c) && decide (y.s = vn.s))) := by
                unfold att
                rw [HN.out, Int.toNat_natCast, HVN.out, hey]
              have hLl : L.length ≤ 4 := by rw [← hL]; simp only [tlv, List.length_map]; exact HOKE.out.few
              have HLO : Hid (∀ v ∈ L, Ordy v) := by rw [← hL]; exact tlv_ord HSOL.out.nrm e.ts
              have HT : Hid (∀ w9, Below w6.heap.size w6 w9 → Calls Try.prog 24 #[.agg #[.int .i64 (n : Nat), .slice e.A e.ts.length e.c, .int .i64 e.cost, .int .i64 e.l0, .int .i64 e.l1], .slice (some ⟨va, 0, none⟩) N N] w9 (RetVls L w9)) := fun w9 h9 => by
                rw [← hL]
                exact rtails_any w9 w6.heap.size N N (some ⟨va, 0, none⟩) V0 n e.cost e.l0 e.l1 e.A e.c e.ts ((Reads.of_blk HKV5.out HKV5.out.lt (by simp) (by rw [vls_length, hVl0])).below h9) ((HRd5.out.more HB5.out.size).below h9) h9.size HOKE.out.ts (by have := HOKE.out.few; omega)
              have HCB : Hid (∀ (w9 : World) (A : Option Addr) (c B : Nat), Reads w9 B 2 A L.length (vls L) → B ≤ w9.heap.size → Calls Try.prog 18 #[.int .i64 e.cost, .slice A L.length c] w9 fun e' w' => e' = .returned (.agg #[.int .i64 y.c, .int .i64 y.s]) ∧ Below w9.heap.size w9 w') := fun w9 A c B h1 h2 => by
                rw [← hy]
                exact rcombine_any e.cost A L.length c B L w9 h1 h2 HOKE.out.cost.1 HOKE.out.cost.2 HLO.out (by omega)
              have HATT := Lib.hid hatt
              have x1 : w6.cell? ⟨be + 1, 0, none⟩ = some (.int .i64 vn.c) := HKY.out.cell 0
              clear hatt hL hy hey
              cases hfin : decide (vn.c < 1099511627776) with
              | false =>
                have hno : att (gv V0) e = false := by rw [HATT.out, hfin]; rfl
                have HNO := Lib.hid hno
                clear hno
                go_quiet (fail)
                go_wp2_with fail
                go_roundw
                case rel => exact ⟨k, _, by omega, rfl, by show Hid (_ = _); exact rfl, HKH5, HKV5, by rw [chB_same HEk.out HNO.out]; exact HKA5, below_drewN HB5.out _⟩
                case measure => simp [intOf]
              | true =>
                have HFIN := Lib.hid hfin
                have H9 : Hid (∀ w9, Below w6.heap.size w6 w9 → w9.cell? ⟨be, 0, none⟩ = some (.int .i64 (n : Nat)) ∧ w9.cell? ⟨be, 1, none⟩ = some (.slice e.A e.ts.length e.c) ∧ w9.cell? ⟨be, 2, none⟩ = some (.int .i64 e.cost) ∧ w9.cell? ⟨be, 3, none⟩ = some (.int .i64 e.l0) ∧ w9.cell? ⟨be, 4, none⟩ = some (.int .i64 e.l1) ∧ w9.cell? ⟨be + 1, 0, none⟩ = some (.int .i64 vn.c) ∧ w9.cell? ⟨be + 1, 1, none⟩ = some (.int .i64 vn.s) ∧ Below w6.heap.size w6 w9) := fun w9 h => by
                  have K := HKE.out.below h HKE.out.lt
                  have K2 := HKY.out.below h HKY.out.lt
                  exact ⟨K.cell 0, K.cell 1, K.cell 2, K.cell 3, K.cell 4, K2.cell 0, K2.cell 1, h⟩
                have B8 : Below w6.heap.size w6 w6.drew := (Below.refl _ _).drew
                have hE := HEQ.out
                clear x1
                cases hat : (decide (y.c = vn.c) && decide (y.s = vn.s)) with
                | false =>
                  have hno : att (gv V0) e = false := by rw [HATT.out, hfin, hat]; rfl
                  have HNO := Lib.hid hno
                  clear hno
                  go_region_held3 (fun w' => w'.cell? ⟨be, 0, none⟩ = some (.int .i64 (n : Nat)) ∧ w'.cell? ⟨be, 1, none⟩ = some (.slice e.A e.ts.length e.c) ∧ w'.cell? ⟨be, 2, none⟩ = some (.int .i64 e.cost) ∧ w'.cell? ⟨be, 3, none⟩ = some (.int .i64 e.l0) ∧ w'.cell? ⟨be, 4, none⟩ = some (.int .i64 e.l1) ∧ w'.cell? ⟨be + 1, 0, none⟩ = some (.int .i64 vn.c) ∧ w'.cell? ⟨be + 1, 1, none⟩ = some (.int .i64 vn.s) ∧ Below w6.heap.size w6 w')
                    (first | exact H9.out _ B8 | exact H9.out _ X7 | exact H9.out _ X5)
                    (first
                      | (go_at_call 24; (with_reducible refine (HT.out _ B8).mono ?_); rintro e5 w5 ⟨A5, c5, rfl, r5, hb5⟩; have X5 : Below w6.heap.size w6 w5 := B8.trans (hb5.mono (Nat.le_refl _)); have hz5 : w6.heap.size ≤ w5.heap.size := X5.size)
                      | (go_at_call 18; (with_reducible refine (HCB.out _ A5 c5 w5.heap.size r5 (Nat.le_refl _)).mono ?_); rintro e7 w7 ⟨rfl, hb7⟩; have X7 : Below w6.heap.size w6 w7 := X5.trans (hb7.mono hz5); have hz7 : w6.heap.size ≤ w7.heap.size := X7.size))
                  clear hE
                  all_goals
                    go_wp2_with fail
                    go_roundw
                    case rel => exact ⟨k, _, by omega, rfl, by show Hid (_ = _); exact rfl, HKH5.out.below X7 HKH5.out.lt, HKV5.out.below X7 HKV5.out.lt, by rw [chB_same HEk.out HNO.out]; exact HKA5.out.below X7 HKA5.out.lt, HB5.out.trans (X7.mono HB5.out.size)⟩
                    case measure => simp [intOf]
                | true =>
                  have hyes : att (gv V0) e = true := by rw [HATT.out, hfin, hat]; rfl
                  have HYES := Lib.hid hyes
                  have hci : (chB (gv V0) es (k + 1) N)[n]? = some (choB (gv V0) es (k + 1) n) := chB_at hnN
                  obtain ⟨cc, hcc⟩ : ∃ cc, choB (gv V0) es (k + 1) n = cc := ⟨_, rfl⟩
                  rw [hcc] at hci
                  clear hyes hcc
                  go_region_held3 (fun w' => w'.cell? ⟨be, 0, none⟩ = some (.int .i64 (n : Nat)) ∧ w'.cell? ⟨be, 1, none⟩ = some (.slice e.A e.ts.length e.c) ∧ w'.cell? ⟨be, 2, none⟩ = some (.int .i64 e.cost) ∧ w'.cell? ⟨be, 3, none⟩ = some (.int .i64 e.l0) ∧ w'.cell? ⟨be, 4, none⟩ = some (.int .i64 e.l1) ∧ w'.cell? ⟨be + 1, 0, none⟩ = some (.int .i64 vn.c) ∧ w'.cell? ⟨be + 1, 1, none⟩ = some (.int .i64 vn.s) ∧ Below w6.heap.size w6 w')
                    (first | exact H9.out _ B8 | exact H9.out _ X7 | exact H9.out _ X5)
                    (first
                      | (go_at_call 24; (with_reducible refine (HT.out _ B8).mono ?_); rintro e5 w5 ⟨A5, c5, rfl, r5, hb5⟩; have X5 : Below w6.heap.size w6 w5 := B8.trans (hb5.mono (Nat.le_refl _)); have hz5 : w6.heap.size ≤ w5.heap.size := X5.size)
                      | (go_at_call 18; (with_reducible refine (HCB.out _ A5 c5 w5.heap.size r5 (Nat.le_refl _)).mono ?_); rintro e7 w7 ⟨rfl, hb7⟩; have X7 : Below w6.heap.size w6 w7 := X5.trans (hb7.mono hz5); have hz7 : w6.heap.size ≤ w7.heap.size := X7.size; have k0 : w7.cell? ⟨be, 0, none⟩ = some (.int .i64 (n : Nat)) := (HKE.out.below X7 HKE.out.lt).cell 0; have KA := HKA5.out.below X7 HKA5.out.lt; have HKA7 := Lib.hid KA; have a0 : w7.cell? ⟨ea, n, none⟩ = some (.int .i64 cc) := (by rw [KA.cell]; simp [ints, hci]); have a1 := KA.frozen n; clear KA))
                  clear hE
                  all_goals
                    clear hci
                    go_wp2_with fail
                    go_roundw
                    case rel =>
                      have n0 := HLT.out
                      refine ⟨k, _, by omega, rfl, by show Hid (_ = _); exact rfl, (HKH5.out.below X7 HKH5.out.lt).far (p := ⟨ea, n, none⟩) (by show bh ≠ ea; omega) _, (HKV5.out.below X7 HKV5.out.lt).far (p := ⟨ea, n, none⟩) (by show va ≠ ea; omega) _, ?_, (HB5.out.trans (X7.mono HB5.out.size)).setCell (p := ⟨ea, n, none⟩) (by show w.heap.size ≤ ea; omega) _⟩
                      rw [← chB_set (n := n) HEk.out (by rw [HN.out, Int.toNat_natCast]) HYES.out]
                      have := HKA7.out.set_ n (.int .i64 (k : Nat))
                      have e2 : (ints ((chB (gv V0) es (k + 1) N).set n (k : Int))).toArray = (ints (chB (gv V0) es (k + 1) N)).toArray.setIfInBounds n (.int .i64 (k : Nat)) := by simp [ints, List.map_set]
                      rw [e2]
                      exact this
                    case measure => simp [intOf]
        | true =>
          have hme : vmeas wr va = rks V0 := vmeas_eq HKV3.out
          have HME := Lib.hid hme
          have HPK : Hid (PassS false es V0 V0 0) := ⟨fun _ => ⟨rfl, fun j e hj => absurd hj (Nat.not_lt_zero _)⟩, fun h => by simp at h⟩
          clear hme HP3
          go_wp2_with fail
          rename World => w5
          go_loopw [7, 8] (fun x y wr => ∃ (k : Nat) (V : List Vl) (b : Bool), k ≤ M ∧ y = .int .i64 k ∧ x = .bool b ∧ V.length = N ∧ Hid (Blk wr bh 34 #[.int .i64 N, .slice E M ce]) ∧ Hid (Blk wr va 23 (vls V).toArray) ∧ Hid (Blk wr ea 3 (ints (List.replicate N (-1))).toArray) ∧ Hid (Below w.heap.size w wr) ∧ Hid (RInv es V) ∧ Hid (PassS b es V0 V k)) (fun _ y _ => M - (intOf y).toNat)
          case atStart => exact ⟨0, V0, false, Nat.zero_le _, rfl, rfl, hVl0, HKH3, HKV3, HKA3, HB3, HRI3, HPK⟩
          case round =>
            obtain ⟨k, V, b, hk, rfl, rfl, hVl, HKH4, HKV4, HKA4, HB4, HRI4, HP4⟩ := hrel
            clear HKH3 HKV3 HKA3 HB3 HRI3 HPK
            have c1 : wr.cell? ⟨bh, 1, none⟩ = some (.slice E M ce) := HKH4.out.cell 1
            by_cases hlt : k < M
            case neg =>
              have hltD : decide (k < M) = false := by simp [hlt]
              obtain rfl : M = k := by omega
              clear hlt hk
              go_wp2_with fail
              go_roundw
              case rel => exact ⟨V, b, rfl, hVl, HKH4, HKV4, HKA4, HB4, HRI4, fun h => by rw [HMM.out]; exact (HP4.out.1 h).2⟩
              case measure =>
                have e1 : vmeas wr va = rks V := vmeas_eq HKV4.out
                rw [HME.out, e1]
                cases b with
                | true => have := HP4.out.2 rfl; simp only; omega
                | false => have := (HP4.out.1 rfl).1; subst this; simp
            case pos =>
              have hltD : decide (k < M) = true := by simp [hlt]
              obtain ⟨b', off, e, hE', hb', he, p0, p1, p2, p3, p4, hR⟩ := (HE.out.below HB4.out).at_ hlt
              subst hE'
              have HRd := Lib.hid hR
              have HEk := Lib.hid he
              have heok := HES.out e (List.mem_of_getElem? he)
              obtain ⟨n, hn⟩ := Int.eq_ofNat_of_zero_le heok.hd.1
              have hnN : n < N := by have := heok.hd.2; omega
              have hbl : b' < wr.heap.size := by have := HB4.out.size; omega
              have HOKE := Lib.hid heok
              clear hR he heok
              rw [hn] at p0
              have HN := Lib.hid hn
              clear hn
              go_upto_region 14 with fail
              obtain ⟨w6, hw6⟩ : ∃ w6, wr.alloc (.cells #[.int .i64 (n : Nat), .slice e.A e.ts.length e.c, .int .i64 e.cost, .int .i64 e.l0, .int .i64 e.l1] 43) = w6 := ⟨_, rfl⟩
              obtain ⟨be, hbe⟩ : ∃ be, wr.heap.size = be := ⟨_, rfl⟩
              have HKE : Hid (Blk w6 be 43 #[.int .i64 (n : Nat), .slice e.A e.ts.length e.c, .int .i64 e.cost, .int .i64 e.l0, .int .i64 e.l1]) := by rw [← hw6, ← hbe]; exact Blk.new' wr _ _ rfl
              have hxb : Below wr.heap.size wr w6 := by rw [← hw6]; exact (Below.refl _ _).alloc (Nat.le_refl _) _
              have HKH5 := Lib.hid (HKH4.out.below hxb HKH4.out.lt)
              have HKV5 := Lib.hid (HKV4.out.below hxb HKV4.out.lt)
              have HKA5 := Lib.hid (HKA4.out.below hxb HKA4.out.lt)
              have HB5 : Hid (Below w.heap.size w w6) := HB4.out.trans (hxb.mono HB4.out.size)
              have HRd5 := Lib.hid (HRd.out.below (hxb.mono HB4.out.size))
              rw [hw6, hbe]
              clear hw6 hbe hxb HKH4 HKV4 HKA4 HB4 HRd p0 p1 p2 p3 p4 hbl hb' c1
              obtain ⟨vn, hvn⟩ : ∃ vn, gv V n = vn := ⟨_, rfl⟩
              have hvi : V[n]? = some vn := by rw [← hvn, gv, List.getElem?_eq_getElem (by omega)]; rfl
              obtain ⟨L, hL⟩ : ∃ L, tlv (gv V) e.ts = L := ⟨_, rfl⟩
              obtain ⟨y, hy⟩ : ∃ y, comb e.cost L = y := ⟨_, rfl⟩
              have hey : ev (gv V) e = y := by rw [← hy, ← hL]; rfl
              have hLl : L.length ≤ 4 := by rw [← hL]; simp only [tlv, List.length_map]; exact HOKE.out.few
              have HLO : Hid (∀ v ∈ L, Ordy v) := by rw [← hL]; exact tlv_ord HRI4.out.nV e.ts
              have HT : Hid (∀ w9, Below w6.heap.size w6 w9 → Calls Try.prog 24 #[.agg #[.int .i64 (n : Nat), .slice e.A e.ts.length e.c, .int .i64 e.cost, .int .i64 e.l0, .int .i64 e.l1], .slice (some ⟨va, 0, none⟩) N N] w9 (RetVls L w9)) := fun w9 h9 => by
                rw [← hL]
                exact rtails_any w9 w6.heap.size N N (some ⟨va, 0, none⟩) V n e.cost e.l0 e.l1 e.A e.c e.ts ((Reads.of_blk HKV5.out HKV5.out.lt (by simp) (by rw [vls_length, hVl])).below h9) ((HRd5.out.more HB5.out.size).below h9) h9.size HOKE.out.ts (by have := HOKE.out.few; omega)
              have HCB : Hid (∀ (w9 : World) (A : Option Addr) (c B : Nat), Reads w9 B 2 A L.length (vls L) → B ≤ w9.heap.size → Calls Try.prog 18 #[.int .i64 e.cost, .slice A L.length c] w9 fun e' w' => e' = .returned (.agg #[.int .i64 y.c, .int .i64 y.s]) ∧ Below w9.heap.size w9 w') := fun w9 A c B h1 h2 => by
                rw [← hy]
                exact rcombine_any e.cost A L.length c B L w9 h1 h2 HOKE.out.cost.1 HOKE.out.cost.2 HLO.out (by omega)
              have HY := Lib.hid hey
              have HVN := Lib.hid hvn
              have H9 : Hid (∀ w9, Below w6.heap.size w6 w9 → w9.cell? ⟨be, 0, none⟩ = some (.int .i64 (n : Nat)) ∧ w9.cell? ⟨be, 1, none⟩ = some (.slice e.A e.ts.length e.c) ∧ w9.cell? ⟨be, 2, none⟩ = some (.int .i64 e.cost) ∧ w9.cell? ⟨be, 3, none⟩ = some (.int .i64 e.l0) ∧ w9.cell? ⟨be, 4, none⟩ = some (.int .i64 e.l1) ∧ Below w6.heap.size w6 w9) := fun w9 h => by
                have K := HKE.out.below h HKE.out.lt
                exact ⟨K.cell 0, K.cell 1, K.cell 2, K.cell 3, K.cell 4, h⟩
              have B8 : Below w6.heap.size w6 w6.drew := (Below.refl _ _).drew
              have B8' : Below w6.heap.size w6 (w6.alloc (.cells #[.int .i64 0, .int .i64 0] 23)).drew := ((Below.refl _ w6).alloc (Nat.le_refl _) _).drew
              have Z8 : Blk (w6.alloc (.cells #[.int .i64 0, .int .i64 0] 23)).drew w6.heap.size 23 #[.int .i64 0, .int .i64 0] := (Blk.new' w6 23 #[.int .i64 0, .int .i64 0] (g := w6.heap.size) rfl).drew1
              have hz8 : w6.heap.size ≤ (w6.alloc (.cells #[.int .i64 0, .int .i64 0] 23)).drew.heap.size := B8'.size
              have hz8n := Z8.lt
              clear hvn hL hy hey
              go_cut [10] (fun x10 wx => ∃ g : Nat, x10 = .pointer (some ⟨g, 0, none⟩) ∧ Blk wx g 23 #[.int .i64 y.c, .int .i64 y.s] ∧ Below w6.heap.size w6 wx)
              case first =>
                go_region_held3 (fun w' => w'.cell? ⟨be, 0, none⟩ = some (.int .i64 (n : Nat)) ∧ w'.cell? ⟨be, 1, none⟩ = some (.slice e.A e.ts.length e.c) ∧ w'.cell? ⟨be, 2, none⟩ = some (.int .i64 e.cost) ∧ w'.cell? ⟨be, 3, none⟩ = some (.int .i64 e.l0) ∧ w'.cell? ⟨be, 4, none⟩ = some (.int .i64 e.l1) ∧ Below w6.heap.size w6 w')
                  (first | exact H9.out _ B8 | exact H9.out _ B8' | exact H9.out _ X7 | exact H9.out _ (X7.alloc hz7 _) | exact H9.out _ X5 | exact H9.out _ (X5.alloc hz5 _) | exact H9.out _ ((X7.setCell (Nat.le_refl _) _).setCell (Nat.le_refl _) _) | exact H9.out _ ((X7.setCell hz5 _).setCell hz5 _))
                  (first
                    | (go_at_call 24; (with_reducible refine (HT.out _ B8).mono ?_); rintro e5 w5 ⟨A5, c5, rfl, r5, hb5⟩; have X5 : Below w6.heap.size w6 w5 := B8.trans (hb5.mono (Nat.le_refl _)); have hz5 : w6.heap.size ≤ w5.heap.size := X5.size)
                    | (go_at_call 24; (with_reducible refine (HT.out _ B8').mono ?_); rintro e5 w5 ⟨A5, c5, rfl, r5, hb5⟩; have X5 : Below w6.heap.size w6 w5 := B8'.trans (hb5.mono hz8); have hz5 : w6.heap.size ≤ w5.heap.size := X5.size; have Z5 := Z8.below hb5 hz8n)
                    | (go_at_call 18; (with_reducible refine (HCB.out _ A5 c5 w5.heap.size r5 (Nat.le_refl _)).mono ?_); rintro e7 w7 ⟨rfl, hb7⟩; have X7 : Below w6.heap.size w6 w7 := X5.trans (hb7.mono hz5); have hz7 : w6.heap.size ≤ w7.heap.size := X7.size; have Z7 := Z5.below hb7 Z5.lt; have n0 := Z7.cell 0; have n1 := Z7.cell 1; have m0 := Z7.frozen 0; have m1 := Z7.frozen 1; simp at n0 n1)
                    | (go_at_call 18; (with_reducible refine (HCB.out _ A5 c5 w5.heap.size r5 (Nat.le_refl _)).mono ?_); rintro e7 w7 ⟨rfl, hb7⟩; have X7 : Below w6.heap.size w6 w7 := X5.trans (hb7.mono hz5); have hz7 : w6.heap.size ≤ w7.heap.size := X7.size)
                    | (go_at_call 18; (with_reducible refine (HCB.out _ A5 c5 w5.heap.size (r5.alloc (Nat.le_refl _) _) (Below.size ((Below.refl w5.heap.size w5).alloc (Nat.le_refl _) _))).mono ?_); rintro e7 w7 ⟨rfl, hb7⟩; have X7 : Below w6.heap.size w6 w7 := (X5.alloc hz5 _).trans (hb7.mono (Nat.le_trans hz5 (Below.size ((Below.refl w5.heap.size w5).alloc (Nat.le_refl _) _)))); have hz7 : w6.heap.size ≤ w7.heap.size := X7.size; have Z7 := (Blk.new' w5 23 #[.int .i64 0, .int .i64 0] rfl).below hb7 (Blk.new' w5 23 #[.int .i64 0, .int .i64 0] rfl).lt; have n0 := Z7.cell 0; have n1 := Z7.cell 1; have m0 := Z7.frozen 0; have m1 := Z7.frozen 1; simp at n0 n1))
                all_goals
                  go_wp2_with fail
                  go_meet
                  first
                    | exact ⟨_, rfl, Blk.new' w7 _ _ rfl, X7.alloc hz7 _⟩
                    | exact ⟨_, rfl, Z7.set2 _ _, (X7.setCell (Nat.le_refl _) _).setCell (Nat.le_refl _) _⟩
                    | exact ⟨_, rfl, Z7.set2 _ _, (X7.setCell hz5 _).setCell hz5 _⟩
              case rest =>
                obtain ⟨g, rfl, KY, X7⟩ := hcut
                rename World => w8
                have hgl := KY.lt
                have HKE8 := Lib.hid (HKE.out.below X7 HKE.out.lt)
                have HKH8 := Lib.hid (HKH5.out.below X7 HKH5.out.lt)
                have HKV8 := Lib.hid (HKV5.out.below X7 HKV5.out.lt)
                have HKA8 := Lib.hid (HKA5.out.below X7 HKA5.out.lt)
                have HB8 : Hid (Below w.heap.size w w8) := HB5.out.trans (X7.mono HB5.out.size)
                have HKY := Lib.hid KY
                clear H9 B8 B8' Z8 hz8 hz8n HT HCB HKE HKH5 HKV5 HKA5 HB5 HRd5 KY X7
                obtain ⟨v0, v1⟩ := HKV8.out.vl_at hvi
                have f0 := ext_cell (HKY.out.cell 0)
                have f1 := ext_cell (HKY.out.cell 1)
                have f2 := ext_cell (HKE8.out.cell 0)
                have f3 := ext_cell v0
                have f4 := ext_cell v1
                clear v0 v1
                have hoy : Ordy y := by rw [← HY.out]; exact (ev_nrm HRI4.out.nV HOKE.out.cost.1).1
                have hov : Ordy vn := by rw [← HVN.out]; exact (HRI4.out.nV n).1
                have HOO := Lib.hid (And.intro hoy hov)
                clear hoy hov
                have HL1 := Lib.hid (fun w => rless_any y.c y.s vn.c vn.s w)
                cases h1 : vlt y.c y.s vn.c vn.s with
                | false =>
                  rw [h1] at HL1
                  have HV1 := Lib.hid h1
                  clear h1 hvi
                  go_wp2_with fail
                  refine wp_region_ext (by kernel_rfl) (by kernel_rfl) ?_
                  repeat (go_big_quiet_step (exact calls_ext (HL1.out _)))
                  refine wpQuiet_nil ?_
                  rintro _ ⟨u, rfl⟩
                  clear f0 f1 f2 f3 f4
                  go_wp2_with fail
                  go_roundw
                  case rel =>
                    refine ⟨k + 1, V, b, by omega, by go_num, rfl, hVl, HKH8.out.below u.h HKH8.out.lt, HKV8.out.below u.h HKV8.out.lt, HKA8.out.below u.h HKA8.out.lt, HB8.out.trans (u.h.mono HB8.out.size), HRI4, ⟨fun h => ⟨(HP4.out.1 h).1, (HP4.out.1 h).2.next HEk.out ?_⟩, HP4.out.2⟩⟩
                    rw [HN.out, Int.toNat_natCast, HVN.out, HY.out]
                    apply Classical.byContradiction
                    intro hc
                    have := vlt_iff.2 hc
                    rw [HV1.out] at this
                    exact absurd this (by simp)
                  case measure => simp [intOf]; omega
                | true =>
                  rw [h1] at HL1
                  have HRK := Lib.hid (rks_set (u := y) hvi (vlt_rk HOO.out.1 HOO.out.2 h1))
                  have HVI := Lib.hid hvi
                  clear h1 hvi
                  go_wp2_with fail
                  refine wp_region_ext (by kernel_rfl) (by kernel_rfl) ?_
                  repeat (go_big_quiet_step (exact calls_ext (HL1.out _)))
                  refine wpQuiet_nil ?_
                  rintro _ ⟨u, rfl⟩
                  have g0 := f0 u
                  have g1 := f1 u
                  have g2 := f2 u
                  have g3 := f3 u
                  have g4 := f4 u
                  have z0 : u.W.frozen? ⟨va, n * 2, none⟩ = false := (HKV8.out.below u.h HKV8.out.lt).frozen (n * 2)
                  have z1 : u.W.frozen? ⟨va, n * 2 + 1, none⟩ = false := (HKV8.out.below u.h HKV8.out.lt).frozen (n * 2 + 1)
                  simp at g0 g1 g2
                  clear f0 f1 f2 f3 f4
                  go_wp2_with fail
                  go_roundw
                  case rel =>
                    have n0 := HLT.out
                    refine ⟨k + 1, V.set n y, true, by omega, by go_num, rfl, by rw [List.length_set]; exact hVl, ((HKH8.out.below u.h HKH8.out.lt).far (p := ⟨va, n * 2, none⟩) (by show bh ≠ va; omega) _).far (p := ⟨va, n * 2 + 1, none⟩) (by show bh ≠ va; omega) _, (HKV8.out.below u.h HKV8.out.lt).vl_put (by rw [hVl]; exact hnN) y, ((HKA8.out.below u.h HKA8.out.lt).far (p := ⟨va, n * 2, none⟩) (by show ea ≠ va; omega) _).far (p := ⟨va, n * 2 + 1, none⟩) (by show ea ≠ va; omega) _, ((HB8.out.trans (u.h.mono HB8.out.size)).setCell (p := ⟨va, n * 2, none⟩) (by show w.heap.size ≤ va; omega) _).setCell (p := ⟨va, n * 2 + 1, none⟩) (by show w.heap.size ≤ va; omega) _, ?_, ⟨fun h => by simp at h, fun _ => ?_⟩⟩
                    · rw [← HY.out]
                      exact HRI4.out.put (List.mem_of_getElem? HEk.out) HOKE.out.cost.1 (by rw [HN.out]; rfl) (by rw [hVl]; exact hnN)
                    · have h3 := HRK.out
                      cases b with
                      | true => have := HP4.out.2 rfl; omega
                      | false => rw [← (HP4.out.1 rfl).1]; exact h3
                  case measure => simp [intOf]; omega
end Go.Proofs.Ytkeiakmfnammbaa
