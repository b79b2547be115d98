/- Valid, Small and Bounded: where they say yes the hypergraph is small, its hyperedges are valid, its values have sizes below infinite. -/
import Derived.Test.YtkeiakmfnammbaaKnCmp
namespace Go.Proofs.Ytkeiakmfnammbaa
open Go.RowKit

theorem vh_ways (N : Nat) (e : Ed) : decide (e.hd < 0) = true ∨ (decide (e.hd < 0) = false ∧ decide ((N : Int) ≤ e.hd) = true) ∨ (decide (e.hd < 0) = false ∧ decide ((N : Int) ≤ e.hd) = false ∧ decide (e.cost < 0) = true) ∨
    (decide (e.hd < 0) = false ∧ decide ((N : Int) ≤ e.hd) = false ∧ decide (e.cost < 0) = false ∧ decide (1099511627776 < e.cost) = true) ∨
    (decide (e.hd < 0) = false ∧ decide ((N : Int) ≤ e.hd) = false ∧ decide (e.cost < 0) = false ∧ decide (1099511627776 < e.cost) = false ∧ (0 ≤ e.hd ∧ e.hd < N) ∧ (0 ≤ e.cost ∧ e.cost ≤ 1099511627776)) := by
  simp only [decide_eq_true_eq, decide_eq_false_iff_not]
  omega
theorem vt_ways (N : Nat) (t : Int) : decide (t < 0) = true ∨ (decide (t < 0) = false ∧ decide ((N : Int) ≤ t) = true) ∨ (decide (t < 0) = false ∧ decide ((N : Int) ≤ t) = false ∧ 0 ≤ t ∧ t < N) := by
  simp only [decide_eq_true_eq, decide_eq_false_iff_not]
  omega
/-- What Valid says of a hyperedge. -/
structure Ed.Vd (e : Ed) (N : Nat) : Prop where
  hd : 0 ≤ e.hd ∧ e.hd < N
  cost : 0 ≤ e.cost ∧ e.cost ≤ 1099511627776
  ts : ∀ t ∈ e.ts, 0 ≤ t ∧ t < N
set_option maxRecDepth 100000 in
set_option maxHeartbeats 4000000 in
theorem valid_any (w : World) (Z : Int) (ce B : Nat) (E : Option Addr) (es : List Ed) (hE : HG w B E es.length es) (hB : B ≤ w.heap.size) (hM : es.length ≤ 1000000) (hT : ∀ e ∈ es, e.ts.length ≤ 1000000) :
    Calls Try.prog 36 #[.agg #[.int .i64 Z, .slice E es.length ce]] w (RetIf (∃ N : Nat, Z = N ∧ 1 ≤ N ∧ ∀ e ∈ es, e.Vd N) w) := by
  obtain ⟨M, hMM⟩ : ∃ M, es.length = M := ⟨_, rfl⟩
  rw [hMM] at hM ⊢
  have HE := Lib.hid (hE.more hB)
  rw [hMM] at HE
  have HMM := Lib.hid hMM
  have HTT := Lib.hid hT
  clear hE hMM hT
  by_cases hz : Z < 1
  case pos =>
    have hzD : decide (Z < 1) = true := by simp [hz]
    clear hz
    go_enter Try.func36, Try.ntmps36
    go_wp2_with fail
    go_ret
    exact ⟨false, rfl, fun h => by simp at h, (Below.refl _ _).alloc (Nat.le_refl _) _⟩
  case neg =>
  have hzD : decide (Z < 1) = false := by simp [hz]
  by_cases hz2 : 1048576 < Z
  case pos =>
    have hzD2 : decide (1048576 < Z) = true := by simp [hz2]
    clear hz hz2
    go_enter Try.func36, Try.ntmps36
    go_wp2_with fail
    go_ret
    exact ⟨false, rfl, fun h => by simp at h, (Below.refl _ _).alloc (Nat.le_refl _) _⟩
  case neg =>
  have hzD2 : decide (1048576 < Z) = false := by simp [hz2]
  obtain ⟨N, rfl⟩ := Int.eq_ofNat_of_zero_le (show 0 ≤ Z by omega)
  have hN1 : 1 ≤ N := by omega
  clear hz hz2
  go_enter Try.func36, Try.ntmps36
  go_wp2_with fail
  obtain ⟨w1, hw1⟩ : ∃ w1, w.alloc (.cells #[.int .i64 N, .slice E M ce] 34) = w1 := ⟨_, rfl⟩
  try simp only [Int.ofNat_eq_natCast]
  rw [hw1]
  obtain ⟨bh, hbh⟩ : ∃ bh, w.heap.size = bh := ⟨_, rfl⟩
  have HKH1 : Hid (Blk w1 bh 34 #[.int .i64 N, .slice E M ce]) := by rw [← hw1]; exact Blk.new' w _ _ hbh
  have HB1 : Hid (Below w.heap.size w w1) := by rw [← hw1]; exact (Below.refl _ _).alloc (Nat.le_refl _) _
  try rw [hbh]
  clear hw1 hbh hzD hzD2
  go_loopw [3] (fun x wr => ∃ k : Nat, k ≤ M ∧ x = .int .i64 k ∧ Hid (Blk wr bh 34 #[.int .i64 N, .slice E M ce]) ∧ Hid (Below w.heap.size w wr) ∧ Hid (∀ e ∈ es.take k, e.Vd N)) (fun x _ => M - (intOf x).toNat)
  case atStart => exact ⟨0, Nat.zero_le _, rfl, HKH1, HB1, fun e he => by simp at he⟩
  case round =>
    obtain ⟨k, hk, rfl, HKH2, HB2, HV2⟩ := hrel
    clear HKH1 HB1
    have c0 : wr.cell? ⟨bh, 0, none⟩ = some (.int .i64 N) := HKH2.out.cell 0
    have c1 : wr.cell? ⟨bh, 1, none⟩ = some (.slice E M ce) := HKH2.out.cell 1
    have hbl0 := HKH2.out.lt
    by_cases hlt : k < M
    case neg =>
      have hltD : decide (k < M) = false := by simp [hlt]
      obtain rfl : M = k := by omega
      go_wp2_with fail
      go_ret
      exact ⟨true, rfl, fun _ => ⟨N, rfl, hN1, fun e he => HV2.out e (by rw [← HMM.out, List.take_length]; exact he)⟩, HB2.out⟩
    case pos =>
      have hltD : decide (k < M) = true := by simp [hlt]
      obtain ⟨b', off, e, hE', hb', he, p0, p1, p2, p3, p4, hR⟩ := (HE.out.below HB2.out).at_ hlt
      subst hE'
      have HRd := Lib.hid hR
      have HEk := Lib.hid he
      have hbl : b' < wr.heap.size := by have := HB2.out.size; omega
      have hts := HTT.out e (List.mem_of_getElem? he)
      clear hR he
      go_upto_region 7 with fail
      obtain ⟨w6, hw6⟩ : ∃ w6, wr.alloc (.cells #[.int .i64 e.hd, .slice e.A e.ts.length e.c, .int .i64 e.cost, .int .i64 e.l0, .int .i64 e.l1] 43) = w6 := ⟨_, rfl⟩
      obtain ⟨be, hbe⟩ : ∃ be, wr.heap.size = be := ⟨_, rfl⟩
      have HKE : Hid (Blk w6 be 43 #[.int .i64 e.hd, .slice e.A e.ts.length e.c, .int .i64 e.cost, .int .i64 e.l0, .int .i64 e.l1]) := by rw [← hw6, ← hbe]; exact Blk.new' wr _ _ rfl
      have hxb : Below wr.heap.size wr w6 := by rw [← hw6]; exact (Below.refl _ _).alloc (Nat.le_refl _) _
      have HKH5 := Lib.hid (HKH2.out.below hxb HKH2.out.lt)
      have HB5 : Hid (Below w.heap.size w w6) := HB2.out.trans (hxb.mono HB2.out.size)
      have HRd5 := Lib.hid (HRd.out.below (hxb.mono HB2.out.size))
      rw [hw6, hbe]
      clear hw6 hbe hxb HKH2 HB2 HRd p0 p1 p2 p3 p4 hbl hb' c0 c1 hbl0
      have c0 : w6.cell? ⟨bh, 0, none⟩ = some (.int .i64 N) := HKH5.out.cell 0
      have k0 : w6.cell? ⟨be, 0, none⟩ = some (.int .i64 e.hd) := HKE.out.cell 0
      have k1 : w6.cell? ⟨be, 1, none⟩ = some (.slice e.A e.ts.length e.c) := HKE.out.cell 1
      have k2 : w6.cell? ⟨be, 2, none⟩ = some (.int .i64 e.cost) := HKE.out.cell 2
      rcases vh_ways N e with h1 | ⟨h1, h2⟩ | ⟨h1, h2, h3⟩ | ⟨h1, h2, h3, h4⟩ | ⟨h1, h2, h3, h4, ho1, ho2⟩
      case inr.inr.inr.inr =>
        have HO1 := Lib.hid (And.intro ho1 ho2)
        clear ho1 ho2
        go_wp2_with fail
        clear h1 h2 h3 h4 c0 k0 k1 k2
        obtain ⟨T, hT⟩ : ∃ T, e.ts.length = T := ⟨_, rfl⟩
        rw [hT] at HKE HRd5 hts
        have HTL := Lib.hid hT
        try rw [hT]
        clear hT
        go_loopw [5] (fun x wr => ∃ i : Nat, i ≤ T ∧ x = .int .i64 i ∧ Hid (∃ j, wr = w6.drewN j) ∧ Hid (∀ t ∈ e.ts.take i, 0 ≤ t ∧ t < (N : Int))) (fun x _ => T - (intOf x).toNat)
        case atStart => exact ⟨0, Nat.zero_le _, rfl, drew0 _, fun t ht => by simp at ht⟩
        case round =>
          obtain ⟨i, hi, rfl, HW, HTS⟩ := hrel
          obtain ⟨j, rfl⟩ := HW.out
          have c0 : w6.cell? ⟨bh, 0, none⟩ = some (.int .i64 N) := HKH5.out.cell 0
          have k1 : w6.cell? ⟨be, 1, none⟩ = some (.slice e.A T e.c) := HKE.out.cell 1
          by_cases hli : i < T
          case neg =>
            have hliD : decide (i < T) = false := by simp [hli]
            obtain rfl : T = i := by omega
            go_wp2_with fail
            go_roundw
            case rel => exact ⟨k + 1, by omega, by go_num, HKH5.out.drewN _, below_drewN HB5.out _, fun e' he' => by
              rw [List.take_add_one, HEk.out] at he'
              rcases List.mem_append.1 he' with h | h
              · exact HV2.out e' h
              · simp at h
                subst h
                exact ⟨HO1.out.1, HO1.out.2, fun t ht => HTS.out t (by rw [← HTL.out, List.take_length]; exact ht)⟩⟩
            case measure => simp [intOf]; omega
          case pos =>
            have hliD : decide (i < T) = true := by simp [hli]
            obtain ⟨bt, ot, hA, hbt, q0⟩ := HRd5.out.int_at hli
            obtain ⟨t, hti⟩ : ∃ t, e.ts[i]? = some t := ⟨_, List.getElem?_eq_getElem (by have := HTL.out; omega)⟩
            rw [hti] at q0
            simp only [Option.getD_some] at q0
            rw [hA] at k1
            have HTI := Lib.hid hti
            clear hti hA
            go_upto_region 12 with fail
            rcases vt_ways N t with h1 | ⟨h1, h2⟩ | ⟨h1, h2, h3⟩
            case inr.inr =>
              have HT3 := Lib.hid h3
              clear h3
              go_quiet (fail)
              go_wp2_with fail
              go_roundw
              case rel => exact ⟨i + 1, by omega, by go_num, drew1 _ _, fun u hu => by
                rw [List.take_add_one, HTI.out] at hu
                rcases List.mem_append.1 hu with h | h
                · exact HTS.out u h
                · simp at h; rw [h]; exact HT3.out⟩
              case measure => simp [intOf]; omega
            all_goals
              go_quiet (fail)
              go_wp2_with fail
              go_ret
              first
                | exact ⟨false, rfl, fun h => by simp at h, below_drewN HB5.out _⟩
                | exact ⟨false, rfl, fun h => by simp at h, below_drewN (below_drewN HB5.out _) _⟩
      all_goals
        go_wp2_with fail
        go_ret
        exact ⟨false, rfl, fun h => by simp at h, HB5.out⟩

/-- What Small says. -/
def IsSmall (Z : Int) (es : List Ed) : Prop := ∃ N : Nat, Z = N ∧ 1 ≤ N ∧ N ≤ 30 ∧ es.length ≤ 60 ∧ ∀ e ∈ es, e.Ok N
set_option maxRecDepth 100000 in
set_option maxHeartbeats 4000000 in
theorem small_any (w : World) (Z : Int) (ce B : Nat) (E : Option Addr) (es : List Ed) (hE : HG w B E es.length es) (hB : B ≤ w.heap.size) :
    Calls Try.prog 28 #[.agg #[.int .i64 Z, .slice E es.length ce]] w (RetIf (IsSmall Z es) w) := by
  have hb1 : Below w.heap.size w (w.alloc (.cells #[.int .i64 Z, .slice E es.length ce] 34)) := (Below.refl _ _).alloc (Nat.le_refl _) _
  by_cases hz : 30 < Z
  case pos =>
    have hzD : decide (30 < Z) = true := by simp [hz]
    clear hz
    go_enter Try.func28, Try.ntmps28
    go_wp2_with fail
    go_ret
    exact ⟨false, rfl, fun h => by simp at h, hb1⟩
  case neg =>
  have hzD : decide (30 < Z) = false := by simp [hz]
  by_cases hm : 60 < es.length
  case pos =>
    have hzD2 : decide (60 < es.length) = true := by simp [hm]
    have hzD3 : decide ((60 : Int) < (es.length : Int)) = true := by simp; omega
    clear hz hm
    go_enter Try.func28, Try.ntmps28
    go_wp2_with fail
    go_ret
    exact ⟨false, rfl, fun h => by simp at h, hb1⟩
  case neg =>
  have hzD2 : decide (60 < es.length) = false := by simp; omega
  have hzD3 : decide ((60 : Int) < (es.length : Int)) = false := by simp; omega
  obtain ⟨M, hMM⟩ : ∃ M, es.length = M := ⟨_, rfl⟩
  have HE := Lib.hid (hE.more hB)
  rw [hMM] at hzD2 hzD3 hm HE hb1 ⊢
  have HMM := Lib.hid hMM
  have hM : M ≤ 60 := by omega
  have HZ := Lib.hid hz
  clear hE hMM hm hz
  go_enter Try.func28, Try.ntmps28
  go_wp2_with fail
  obtain ⟨w1, hw1⟩ : ∃ w1, w.alloc (.cells #[.int .i64 Z, .slice E M ce] 34) = w1 := ⟨_, rfl⟩
  rw [hw1] at hb1 ⊢
  obtain ⟨bh, hbh⟩ : ∃ bh, w.heap.size = bh := ⟨_, rfl⟩
  have HKH1 : Hid (Blk w1 bh 34 #[.int .i64 Z, .slice E M ce]) := by rw [← hw1]; exact Blk.new' w _ _ hbh
  have HB1 := Lib.hid hb1
  try rw [hbh]
  clear hw1 hbh hzD hzD2 hzD3 hb1
  have HE1 := Lib.hid (HE.out.below HB1.out)
  go_loop [3] (fun x => ∃ k : Nat, k ≤ M ∧ x = .int .i64 k ∧ Hid (∀ e ∈ es.take k, e.ts.length ≤ 4)) (fun x => M - (intOf x).toNat)
  case atStart => exact ⟨0, Nat.zero_le _, rfl, fun e he => by simp at he⟩
  case round =>
    obtain ⟨k, hk, rfl, HV2⟩ := hrel
    have c0 : w1.cell? ⟨bh, 0, none⟩ = some (.int .i64 Z) := HKH1.out.cell 0
    have c1 : w1.cell? ⟨bh, 1, none⟩ = some (.slice E M ce) := HKH1.out.cell 1
    by_cases hlt : k < M
    case neg =>
      have hltD : decide (k < M) = false := by simp [hlt]
      obtain rfl : M = k := by omega
      go_wp2_with fail
      have hall : ∀ e ∈ es, e.ts.length ≤ 4 := fun e he => HV2.out e (by rw [← HMM.out, List.take_length]; exact he)
      have hv := valid_any w1 Z ce w1.heap.size E es (by rw [HMM.out]; exact HE1.out.more HB1.out.size) (Nat.le_refl _) (by rw [HMM.out]; omega) (fun e he => by have := hall e he; omega)
      rw [HMM.out] at hv
      have HALL := Lib.hid hall
      clear hall
      refine hv.mono ?_
      rintro e w2 ⟨b, rfl, hb, hbw⟩
      have HB := Lib.hid hb
      clear hv hb c0 c1
      go_wp2_with fail
      go_ret
      refine ⟨b, rfl, fun h => ?_, HB1.out.trans (hbw.mono HB1.out.size)⟩
      obtain ⟨N, h1, h2, h3⟩ := HB.out h
      have := HZ.out
      exact ⟨N, h1, h2, by omega, by rw [HMM.out]; exact hM, fun e he => ⟨(h3 e he).hd, (h3 e he).cost, (h3 e he).ts, HALL.out e he⟩⟩
    case pos =>
      have hltD : decide (k < M) = true := by simp [hlt]
      obtain ⟨b', off, e, hE', hb', he, p0, p1, p2, p3, p4, hR⟩ := HE1.out.at_ hlt
      rw [hE'] at c1
      have HEk := Lib.hid he
      clear hE' he hR
      by_cases h4 : 4 < e.ts.length
      case pos =>
        have h4D : decide (4 < e.ts.length) = true := by simp [h4]
        have h4D2 : decide ((4 : Int) < (e.ts.length : Int)) = true := by simp; omega
        clear h4
        go_wp2_with fail
        go_ret
        exact ⟨false, rfl, fun h => by simp at h, HB1.out⟩
      case neg =>
        have h4D : decide (4 < e.ts.length) = false := by simp; omega
        have h4D2 : decide ((4 : Int) < (e.ts.length : Int)) = false := by simp; omega
        have H4 := Lib.hid h4
        clear h4
        go_wp2_with fail
        go_round
        case rel => exact ⟨k + 1, by omega, by go_num, fun u hu => by
          rw [List.take_add_one, HEk.out] at hu
          rcases List.mem_append.1 hu with h | h
          · exact HV2.out u h
          · simp at h; rw [h]; have := H4.out; omega⟩
        case measure => simp [intOf]; omega

/-- What Bounded says. -/
def IsBounded (Z : Int) (es : List Ed) : Prop := ∃ N : Nat, Z = N ∧ 1 ≤ N ∧ N ≤ 30 ∧ es.length ≤ 60 ∧ (∀ e ∈ es, e.Ok N) ∧ ∃ V, Sol es V ∧ ∀ i, (V i).s < 1099511627776
set_option maxRecDepth 100000 in
set_option maxHeartbeats 4000000 in
theorem bounded_any (w : World) (Z : Int) (ce B : Nat) (E : Option Addr) (es : List Ed) (hE : HG w B E es.length es) (hB : B ≤ w.heap.size) :
    Calls Try.prog 19 #[.agg #[.int .i64 Z, .slice E es.length ce]] w (RetIf (IsBounded Z es) w) := by
  have HE := Lib.hid (hE.more hB)
  clear hE
  obtain ⟨M, hMM⟩ : ∃ M, es.length = M := ⟨_, rfl⟩
  rw [hMM] at HE ⊢
  have HMM := Lib.hid hMM
  clear hMM
  go_enter Try.func19, Try.ntmps19
  go_wp2_with fail
  obtain ⟨w1, hw1⟩ : ∃ w1, w.alloc (.cells #[.int .i64 Z, .slice E M ce] 34) = w1 := ⟨_, rfl⟩
  rw [hw1]
  obtain ⟨bh, hbh⟩ : ∃ bh, w.heap.size = bh := ⟨_, rfl⟩
  have HKH1 : Hid (Blk w1 bh 34 #[.int .i64 Z, .slice E M ce]) := by rw [← hw1]; exact Blk.new' w _ _ hbh
  have HB1 : Hid (Below w.heap.size w w1) := by rw [← hw1]; exact (Below.refl _ _).alloc (Nat.le_refl _) _
  try rw [hbh]
  clear hw1 hbh
  have hs := small_any w1 Z ce w.heap.size E es (by rw [HMM.out]; exact HE.out.below HB1.out) HB1.out.size
  rw [HMM.out] at hs
  refine hs.mono ?_
  rintro e w2 ⟨b, rfl, hb, hbw⟩
  have HBB := Lib.hid hb
  have HKH2 := Lib.hid (HKH1.out.below hbw HKH1.out.lt)
  have HB2 : Hid (Below w.heap.size w w2) := HB1.out.trans (hbw.mono HB1.out.size)
  clear hs hb hbw HKH1 HB1
  cases b with
  | false =>
    go_wp2_with fail
    go_ret
    exact ⟨false, rfl, fun h => by simp at h, HB2.out⟩
  | true =>
    obtain ⟨N, hZ, hN1, hN2, hM, hok⟩ := HBB.out rfl
    subst hZ
    have HOK := Lib.hid hok
    have c0 : w2.cell? ⟨bh, 0, none⟩ = some (.int .i64 N) := HKH2.out.cell 0
    have c1 : w2.cell? ⟨bh, 1, none⟩ = some (.slice E M ce) := HKH2.out.cell 1
    clear hok HBB
    go_wp2_with fail
    have hs := rsolve_any w2 N ce w.heap.size E es (by rw [HMM.out]; exact HE.out.below HB2.out) HB2.out.size HOK.out hN2 hM
    rw [HMM.out] at hs
    refine hs.mono ?_
    rintro e w3 ⟨va, ea, V, rfl, hVl, KV, _, hsol, _, _, hbw⟩
    have HV := Lib.hid KV
    have HS := Lib.hid hsol
    have HB3 : Hid (Below w.heap.size w w3) := HB2.out.trans (hbw.mono HB2.out.size)
    clear hs hsol KV hbw c0 c1
    go_wp2_with fail
    go_loop [5] (fun x => ∃ k : Nat, k ≤ N ∧ x = .int .i64 k ∧ Hid (∀ i, i < k → (gv V i).s < 1099511627776)) (fun x => N - (intOf x).toNat)
    case atStart => exact ⟨0, Nat.zero_le _, rfl, fun i hi => absurd hi (Nat.not_lt_zero _)⟩
    case round =>
      obtain ⟨k, hk, rfl, HV2⟩ := hrel
      by_cases hlt : k < N
      case neg =>
        have hltD : decide (k < N) = false := by simp [hlt]
        obtain rfl : N = k := by omega
        go_wp2_with fail
        go_ret
        refine ⟨true, rfl, fun _ => ⟨N, rfl, hN1, hN2, hM, HOK.out, gv V, HS.out, fun i => ?_⟩, HB3.out⟩
        by_cases hi : i < N
        · exact HV2.out i hi
        · rw [gv, List.getElem?_eq_none (by omega)]
          decide
      case pos =>
        have hltD : decide (k < N) = true := by simp [hlt]
        obtain ⟨v, hv⟩ : ∃ v, V[k]? = some v := ⟨_, List.getElem?_eq_getElem (by omega)⟩
        obtain ⟨v0, v1⟩ := HV.out.vl_at hv
        have hgv : gv V k = v := by rw [gv, hv]; rfl
        have HGV := Lib.hid hgv
        clear hv hgv
        by_cases h4 : 1099511627776 ≤ v.s
        case pos =>
          have h4D : decide (1099511627776 ≤ v.s) = true := by simp [h4]
          clear h4
          go_wp2_with fail
          go_ret
          exact ⟨false, rfl, fun h => by simp at h, HB3.out⟩
        case neg =>
          have h4D : decide (1099511627776 ≤ v.s) = false := by simp; omega
          have H4 := Lib.hid h4
          clear h4
          go_wp2_with fail
          go_round
          case rel => exact ⟨k + 1, by omega, by go_num, fun i hi => by
            by_cases hik : i = k
            · subst hik; rw [HGV.out]; have := H4.out; omega
            · exact HV2.out i (by omega)⟩
          case measure => simp [intOf]; omega
end Go.Proofs.Ytkeiakmfnammbaa
