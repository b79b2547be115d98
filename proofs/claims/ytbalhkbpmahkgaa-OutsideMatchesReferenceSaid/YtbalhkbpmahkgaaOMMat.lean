/- The law OutsideMatchesReference. -/
import Derived.Test.YtbalhkbpmahkgaaOMh
import Derived.Test.YtbalhkbpmahkgaaOMd
namespace Go.Proofs.Ytbalhkbpmahkgaa
open Go.RowKit

def RetB (P : Prop) (w : World) (e : Ending) (w' : World) : Prop := ∃ b : Bool, e = .returned (.bool b) ∧ (b = true ↔ P) ∧ Below w.heap.size w w'
theorem vhx_ways (N : Nat) (e : Ed) : (decide (e.hd < 0) = true ∧ ¬ ((0 ≤ e.hd ∧ e.hd < N) ∧ (0 ≤ e.cost ∧ e.cost ≤ 1099511627776))) ∨ (decide (e.hd < 0) = false ∧ decide ((N : Int) ≤ e.hd) = true ∧ ¬ ((0 ≤ e.hd ∧ e.hd < N) ∧ (0 ≤ e.cost ∧ e.cost ≤ 1099511627776))) ∨ (decide (e.hd < 0) = false ∧ decide ((N : Int) ≤ e.hd) = false ∧ decide (e.cost < 0) = true ∧ ¬ ((0 ≤ e.hd ∧ e.hd < N) ∧ (0 ≤ e.cost ∧ e.cost ≤ 1099511627776))) ∨
    (decide (e.hd < 0) = false ∧ decide ((N : Int) ≤ e.hd) = false ∧ decide (e.cost < 0) = false ∧ decide (1099511627776 < e.cost) = true ∧ ¬ ((0 ≤ e.hd ∧ e.hd < N) ∧ (0 ≤ e.cost ∧ e.cost ≤ 1099511627776))) ∨
    (decide (e.hd < 0) = false ∧ decide ((N : Int) ≤ e.hd) = false ∧ decide (e.cost < 0) = false ∧ decide (1099511627776 < e.cost) = false ∧ (0 ≤ e.hd ∧ e.hd < N) ∧ (0 ≤ e.cost ∧ e.cost ≤ 1099511627776)) := by
  simp only [decide_eq_true_eq, decide_eq_false_iff_not]
  omega
theorem vtx_ways (N : Nat) (t : Int) : (decide (t < 0) = true ∧ ¬ (0 ≤ t ∧ t < (N : Int))) ∨ (decide (t < 0) = false ∧ decide ((N : Int) ≤ t) = true ∧ ¬ (0 ≤ t ∧ t < (N : Int))) ∨ (decide (t < 0) = false ∧ decide ((N : Int) ≤ t) = false ∧ 0 ≤ t ∧ t < N) := by
  simp only [decide_eq_true_eq, decide_eq_false_iff_not]
  omega
set_option maxRecDepth 100000 in
set_option maxHeartbeats 4000000 in
theorem xvalid_any (w : World) (Z : Int) (ce B : Nat) (E : Option Addr) (es : List Ed) (hE : HG w B E es.length es) (hB : B ≤ w.heap.size) (hM : es.length ≤ 1000000) (hT : ∀ e ∈ es, e.ts.length ≤ 1000000) :
    Calls Try.prog 35 #[.agg #[.int .i64 Z, .slice E es.length ce]] w (RetB (∃ N : Nat, Z = N ∧ 1 ≤ N ∧ N ≤ 1048576 ∧ ∀ e ∈ es, e.Vd N) w) := by
  obtain ⟨M, hMM⟩ : ∃ M, es.length = M := ⟨_, rfl⟩
  rw [hMM] at hM ⊢
  have HE := Lib.hid (hE.more hB)
  rw [hMM] at HE
  have HMM := Lib.hid hMM
  have HTT := Lib.hid hT
  clear hE hMM hT
  by_cases hz : Z < 1
  case pos =>
    have hzD : decide (Z < 1) = true := by simp [hz]
    have HNOT : Hid (¬ ∃ N : Nat, Z = N ∧ 1 ≤ N ∧ N ≤ 1048576 ∧ ∀ e ∈ es, e.Vd N) := fun ⟨N, h1, h2, _⟩ => by omega
    clear hz
    go_enter Try.func35, Try.ntmps35
    go_wp2_with fail
    go_ret
    exact ⟨false, rfl, ⟨fun h => by simp at h, fun h => absurd h HNOT.out⟩, (Below.refl _ _).alloc (Nat.le_refl _) _⟩
  case neg =>
  have hzD : decide (Z < 1) = false := by simp [hz]
  by_cases hz2 : 1048576 < Z
  case pos =>
    have hzD2 : decide (1048576 < Z) = true := by simp [hz2]
    have HNOT : Hid (¬ ∃ N : Nat, Z = N ∧ 1 ≤ N ∧ N ≤ 1048576 ∧ ∀ e ∈ es, e.Vd N) := fun ⟨N, h1, h2, h3, _⟩ => by omega
    clear hz hz2
    go_enter Try.func35, Try.ntmps35
    go_wp2_with fail
    go_ret
    exact ⟨false, rfl, ⟨fun h => by simp at h, fun h => absurd h HNOT.out⟩, (Below.refl _ _).alloc (Nat.le_refl _) _⟩
  case neg =>
  have hzD2 : decide (1048576 < Z) = false := by simp [hz2]
  obtain ⟨N, rfl⟩ := Int.eq_ofNat_of_zero_le (show 0 ≤ Z by omega)
  have hN1 : 1 ≤ N := by omega
  have HN20 : Hid (N ≤ 1048576) := Lib.hid (by omega)
  clear hz hz2
  go_enter Try.func35, Try.ntmps35
  go_wp2_with fail
  obtain ⟨w1, hw1⟩ : ∃ w1, w.alloc (.cells #[.int .i64 N, .slice E M ce] 24) = w1 := ⟨_, rfl⟩
  try simp only [Int.ofNat_eq_natCast]
  rw [hw1]
  obtain ⟨bh, hbh⟩ : ∃ bh, w.heap.size = bh := ⟨_, rfl⟩
  have HKH1 : Hid (Blk w1 bh 24 #[.int .i64 N, .slice E M ce]) := by rw [← hw1]; exact Blk.new' w _ _ hbh
  have HB1 : Hid (Below w.heap.size w w1) := by rw [← hw1]; exact (Below.refl _ _).alloc (Nat.le_refl _) _
  try rw [hbh]
  clear hw1 hbh hzD hzD2
  go_loopw [3] (fun x wr => ∃ k : Nat, k ≤ M ∧ x = .int .i64 k ∧ Hid (Blk wr bh 24 #[.int .i64 N, .slice E M ce]) ∧ Hid (Below w.heap.size w wr) ∧ Hid (∀ e ∈ es.take k, e.Vd N)) (fun x _ => M - (intOf x).toNat)
  case atStart => exact ⟨0, Nat.zero_le _, rfl, HKH1, HB1, fun e he => by simp at he⟩
  case round =>
    obtain ⟨k, hk, rfl, HKH2, HB2, HV2⟩ := hrel
    clear HKH1 HB1
    have c0 : wr.cell? ⟨bh, 0, none⟩ = some (.int .i64 N) := HKH2.out.cell 0
    have c1 : wr.cell? ⟨bh, 1, none⟩ = some (.slice E M ce) := HKH2.out.cell 1
    have hbl0 := HKH2.out.lt
    by_cases hlt : k < M
    case neg =>
      have hltD : decide (k < M) = false := by simp [hlt]
      obtain rfl : M = k := by omega
      go_wp2_with fail
      go_ret
      exact ⟨true, rfl, ⟨fun _ => ⟨N, rfl, hN1, HN20.out, fun e he => HV2.out e (by rw [← HMM.out, List.take_length]; exact he)⟩, fun _ => rfl⟩, HB2.out⟩
    case pos =>
      have hltD : decide (k < M) = true := by simp [hlt]
      obtain ⟨b', off, e, hE', hb', he, p0, p1, p2, p3, p4, hR⟩ := (HE.out.below HB2.out).at_ hlt
      subst hE'
      have HRd := Lib.hid hR
      have HEk := Lib.hid he
      have hbl : b' < wr.heap.size := by have := HB2.out.size; omega
      have hts := HTT.out e (List.mem_of_getElem? he)
      clear hR he
      go_upto_region 7 with fail
      obtain ⟨w6, hw6⟩ : ∃ w6, wr.alloc (.cells #[.int .i64 e.hd, .slice e.A e.ts.length e.c, .int .i64 e.cost, .int .i64 e.l0, .int .i64 e.l1] 48) = w6 := ⟨_, rfl⟩
      obtain ⟨be, hbe⟩ : ∃ be, wr.heap.size = be := ⟨_, rfl⟩
      have HKE : Hid (Blk w6 be 48 #[.int .i64 e.hd, .slice e.A e.ts.length e.c, .int .i64 e.cost, .int .i64 e.l0, .int .i64 e.l1]) := by rw [← hw6, ← hbe]; exact Blk.new' wr _ _ rfl
      have hxb : Below wr.heap.size wr w6 := by rw [← hw6]; exact (Below.refl _ _).alloc (Nat.le_refl _) _
      have HKH5 := Lib.hid (HKH2.out.below hxb HKH2.out.lt)
      have HB5 : Hid (Below w.heap.size w w6) := HB2.out.trans (hxb.mono HB2.out.size)
      have HRd5 := Lib.hid (HRd.out.below (hxb.mono HB2.out.size))
      rw [hw6, hbe]
      clear hw6 hbe hxb HKH2 HB2 HRd p0 p1 p2 p3 p4 hbl hb' c0 c1 hbl0
      have c0 : w6.cell? ⟨bh, 0, none⟩ = some (.int .i64 N) := HKH5.out.cell 0
      have k0 : w6.cell? ⟨be, 0, none⟩ = some (.int .i64 e.hd) := HKE.out.cell 0
      have k1 : w6.cell? ⟨be, 1, none⟩ = some (.slice e.A e.ts.length e.c) := HKE.out.cell 1
      have k2 : w6.cell? ⟨be, 2, none⟩ = some (.int .i64 e.cost) := HKE.out.cell 2
      rcases vhx_ways N e with ⟨h1, hn⟩ | ⟨h1, h2, hn⟩ | ⟨h1, h2, h3, hn⟩ | ⟨h1, h2, h3, h4, hn⟩ | ⟨h1, h2, h3, h4, ho1, ho2⟩
      case inr.inr.inr.inr =>
        have HO1 := Lib.hid (And.intro ho1 ho2)
        clear ho1 ho2
        go_wp2_with fail
        clear h1 h2 h3 h4 c0 k0 k1 k2
        obtain ⟨T, hT⟩ : ∃ T, e.ts.length = T := ⟨_, rfl⟩
        rw [hT] at HKE HRd5 hts
        have HTL := Lib.hid hT
        try rw [hT]
        clear hT
        go_loopw [5] (fun x wr => ∃ i : Nat, i ≤ T ∧ x = .int .i64 i ∧ Hid (∃ j, wr = w6.drewN j) ∧ Hid (∀ t ∈ e.ts.take i, 0 ≤ t ∧ t < (N : Int))) (fun x _ => T - (intOf x).toNat)
        case atStart => exact ⟨0, Nat.zero_le _, rfl, drew0 _, fun t ht => by simp at ht⟩
        case round =>
          obtain ⟨i, hi, rfl, HW, HTS⟩ := hrel
          obtain ⟨j, rfl⟩ := HW.out
          have c0 : w6.cell? ⟨bh, 0, none⟩ = some (.int .i64 N) := HKH5.out.cell 0
          have k1 : w6.cell? ⟨be, 1, none⟩ = some (.slice e.A T e.c) := HKE.out.cell 1
          by_cases hli : i < T
          case neg =>
            have hliD : decide (i < T) = false := by simp [hli]
            obtain rfl : T = i := by omega
            go_wp2_with fail
            go_roundw
            case rel => exact ⟨k + 1, by omega, by go_num, HKH5.out.drewN _, below_drewN HB5.out _, fun e' he' => by
              rw [List.take_add_one, HEk.out] at he'
              rcases List.mem_append.1 he' with h | h
              · exact HV2.out e' h
              · simp at h
                subst h
                exact ⟨HO1.out.1, HO1.out.2, fun t ht => HTS.out t (by rw [← HTL.out, List.take_length]; exact ht)⟩⟩
            case measure => simp [intOf]; omega
          case pos =>
            have hliD : decide (i < T) = true := by simp [hli]
            obtain ⟨bt, ot, hA, hbt, q0⟩ := HRd5.out.int_at hli
            obtain ⟨t, hti⟩ : ∃ t, e.ts[i]? = some t := ⟨_, List.getElem?_eq_getElem (by have := HTL.out; omega)⟩
            rw [hti] at q0
            simp only [Option.getD_some] at q0
            rw [hA] at k1
            have HTI := Lib.hid hti
            clear hti hA
            go_upto_region 12 with fail
            rcases vtx_ways N t with ⟨h1, hn⟩ | ⟨h1, h2, hn⟩ | ⟨h1, h2, h3⟩
            case inr.inr =>
              have HT3 := Lib.hid h3
              clear h3
              go_quiet (fail)
              go_wp2_with fail
              go_roundw
              case rel => exact ⟨i + 1, by omega, by go_num, drew1 _ _, fun u hu => by
                rw [List.take_add_one, HTI.out] at hu
                rcases List.mem_append.1 hu with h | h
                · exact HTS.out u h
                · simp at h; rw [h]; exact HT3.out⟩
              case measure => simp [intOf]; omega
            all_goals
              have HNOT : Hid (¬ ∃ N' : Nat, (N : Int) = N' ∧ 1 ≤ N' ∧ N' ≤ 1048576 ∧ ∀ e ∈ es, e.Vd N') := fun ⟨N', h1', _, _, hall⟩ => hn (by
                obtain rfl : N = N' := by omega
                exact (hall e (List.mem_of_getElem? HEk.out)).ts t (List.mem_of_getElem? HTI.out))
              clear hn
              go_quiet (fail)
              go_wp2_with fail
              go_ret
              first
                | exact ⟨false, rfl, ⟨fun h => by simp at h, fun h => absurd h HNOT.out⟩, below_drewN HB5.out _⟩
                | exact ⟨false, rfl, ⟨fun h => by simp at h, fun h => absurd h HNOT.out⟩, below_drewN (below_drewN HB5.out _) _⟩
      all_goals
        have HNOT : Hid (¬ ∃ N' : Nat, (N : Int) = N' ∧ 1 ≤ N' ∧ N' ≤ 1048576 ∧ ∀ e ∈ es, e.Vd N') := fun ⟨N', h1', _, _, hall⟩ => hn (by
          obtain rfl : N = N' := by omega
          exact ⟨(hall e (List.mem_of_getElem? HEk.out)).hd, (hall e (List.mem_of_getElem? HEk.out)).cost⟩)
        clear hn
        go_wp2_with fail
        go_ret
        exact ⟨false, rfl, ⟨fun h => by simp at h, fun h => absurd h HNOT.out⟩, HB5.out⟩

set_option maxRecDepth 100000 in
set_option maxHeartbeats 4000000 in
theorem xsmall_any (w : World) (Z : Int) (ce B : Nat) (E : Option Addr) (es : List Ed) (hE : HG w B E es.length es) (hB : B ≤ w.heap.size) :
    Calls Try.prog 39 #[.agg #[.int .i64 Z, .slice E es.length ce]] w (RetB (IsSmall Z es) w) := by
  have hb1 : Below w.heap.size w (w.alloc (.cells #[.int .i64 Z, .slice E es.length ce] 24)) := (Below.refl _ _).alloc (Nat.le_refl _) _
  by_cases hz : 30 < Z
  case pos =>
    have hzD : decide (30 < Z) = true := by simp [hz]
    have HNOT : Hid (¬ IsSmall Z es) := fun ⟨N, h1, h2, h3, _⟩ => by omega
    clear hz
    go_enter Try.func39, Try.ntmps39
    go_wp2_with fail
    go_ret
    exact ⟨false, rfl, ⟨fun h => by simp at h, fun h => absurd h HNOT.out⟩, hb1⟩
  case neg =>
  have hzD : decide (30 < Z) = false := by simp [hz]
  by_cases hm : 60 < es.length
  case pos =>
    have hzD2 : decide (60 < es.length) = true := by simp [hm]
    have HNOT : Hid (¬ IsSmall Z es) := fun ⟨N, h1, h2, h3, h4, _⟩ => by omega
    have hzD3 : decide ((60 : Int) < (es.length : Int)) = true := by simp; omega
    clear hz hm
    go_enter Try.func39, Try.ntmps39
    go_wp2_with fail
    go_ret
    exact ⟨false, rfl, ⟨fun h => by simp at h, fun h => absurd h HNOT.out⟩, hb1⟩
  case neg =>
  have hzD2 : decide (60 < es.length) = false := by simp; omega
  have hzD3 : decide ((60 : Int) < (es.length : Int)) = false := by simp; omega
  obtain ⟨M, hMM⟩ : ∃ M, es.length = M := ⟨_, rfl⟩
  have HE := Lib.hid (hE.more hB)
  rw [hMM] at hzD2 hzD3 hm HE hb1 ⊢
  have HMM := Lib.hid hMM
  have hM : M ≤ 60 := by omega
  have HZ := Lib.hid hz
  clear hE hMM hm hz
  go_enter Try.func39, Try.ntmps39
  go_wp2_with fail
  obtain ⟨w1, hw1⟩ : ∃ w1, w.alloc (.cells #[.int .i64 Z, .slice E M ce] 24) = w1 := ⟨_, rfl⟩
  rw [hw1] at hb1 ⊢
  obtain ⟨bh, hbh⟩ : ∃ bh, w.heap.size = bh := ⟨_, rfl⟩
  have HKH1 : Hid (Blk w1 bh 24 #[.int .i64 Z, .slice E M ce]) := by rw [← hw1]; exact Blk.new' w _ _ hbh
  have HB1 := Lib.hid hb1
  try rw [hbh]
  clear hw1 hbh hzD hzD2 hzD3 hb1
  have HE1 := Lib.hid (HE.out.below HB1.out)
  go_loop [3] (fun x => ∃ k : Nat, k ≤ M ∧ x = .int .i64 k ∧ Hid (∀ e ∈ es.take k, e.ts.length ≤ 4)) (fun x => M - (intOf x).toNat)
  case atStart => exact ⟨0, Nat.zero_le _, rfl, fun e he => by simp at he⟩
  case round =>
    obtain ⟨k, hk, rfl, HV2⟩ := hrel
    have c0 : w1.cell? ⟨bh, 0, none⟩ = some (.int .i64 Z) := HKH1.out.cell 0
    have c1 : w1.cell? ⟨bh, 1, none⟩ = some (.slice E M ce) := HKH1.out.cell 1
    by_cases hlt : k < M
    case neg =>
      have hltD : decide (k < M) = false := by simp [hlt]
      obtain rfl : M = k := by omega
      go_wp2_with fail
      have hall : ∀ e ∈ es, e.ts.length ≤ 4 := fun e he => HV2.out e (by rw [← HMM.out, List.take_length]; exact he)
      have hv := xvalid_any w1 Z ce w1.heap.size E es (by rw [HMM.out]; exact HE1.out.more HB1.out.size) (Nat.le_refl _) (by rw [HMM.out]; omega) (fun e he => by have := hall e he; omega)
      rw [HMM.out] at hv
      have HALL := Lib.hid hall
      clear hall
      refine hv.mono ?_
      rintro e w2 ⟨b, rfl, hb, hbw⟩
      have HB := Lib.hid hb
      clear hv hb c0 c1
      go_wp2_with fail
      go_ret
      refine ⟨b, rfl, ⟨fun h => ?_, fun h => ?_⟩, HB1.out.trans (hbw.mono HB1.out.size)⟩
      · obtain ⟨N, h1, h2, _, h3⟩ := HB.out.1 h
        have := HZ.out
        exact ⟨N, h1, h2, by omega, by rw [HMM.out]; exact hM, fun e he => ⟨(h3 e he).hd, (h3 e he).cost, (h3 e he).ts, HALL.out e he⟩⟩
      · obtain ⟨N, h1, h2, h3, _, h4⟩ := h
        exact HB.out.2 ⟨N, h1, h2, by omega, fun e he => ⟨(h4 e he).hd, (h4 e he).cost, (h4 e he).ts⟩⟩
    case pos =>
      have hltD : decide (k < M) = true := by simp [hlt]
      obtain ⟨b', off, e, hE', hb', he, p0, p1, p2, p3, p4, hR⟩ := HE1.out.at_ hlt
      rw [hE'] at c1
      have HEk := Lib.hid he
      clear hE' he hR
      by_cases h4 : 4 < e.ts.length
      case pos =>
        have h4D : decide (4 < e.ts.length) = true := by simp [h4]
        have HNOT : Hid (¬ IsSmall Z es) := fun ⟨N, _, _, _, _, h5⟩ => by have := (h5 e (List.mem_of_getElem? HEk.out)).few; omega
        have h4D2 : decide ((4 : Int) < (e.ts.length : Int)) = true := by simp; omega
        clear h4
        go_wp2_with fail
        go_ret
        exact ⟨false, rfl, ⟨fun h => by simp at h, fun h => absurd h HNOT.out⟩, HB1.out⟩
      case neg =>
        have h4D : decide (4 < e.ts.length) = false := by simp; omega
        have h4D2 : decide ((4 : Int) < (e.ts.length : Int)) = false := by simp; omega
        have H4 := Lib.hid h4
        clear h4
        go_wp2_with fail
        go_round
        case rel => exact ⟨k + 1, by omega, by go_num, fun u hu => by
          rw [List.take_add_one, HEk.out] at hu
          rcases List.mem_append.1 hu with h | h
          · exact HV2.out u h
          · simp at h; rw [h]; have := H4.out; omega⟩
        case measure => simp [intOf]; omega

set_option maxRecDepth 100000 in
set_option maxHeartbeats 4000000 in
theorem xshort_any (w : World) (Z : Int) (ce B : Nat) (E : Option Addr) (es : List Ed) (hE : HG w B E es.length es) (hB : B ≤ w.heap.size) :
    Calls Try.prog 27 #[.agg #[.int .i64 Z, .slice E es.length ce]] w (RetB (IsShort Z es) w) := by
  have HE := Lib.hid (hE.more hB)
  clear hE
  obtain ⟨M, hMM⟩ : ∃ M, es.length = M := ⟨_, rfl⟩
  rw [hMM] at HE ⊢
  have HMM := Lib.hid hMM
  clear hMM
  go_enter Try.func27, Try.ntmps27
  go_wp2_with fail
  obtain ⟨w1, hw1⟩ : ∃ w1, w.alloc (.cells #[.int .i64 Z, .slice E M ce] 24) = w1 := ⟨_, rfl⟩
  rw [hw1]
  obtain ⟨bh, hbh⟩ : ∃ bh, w.heap.size = bh := ⟨_, rfl⟩
  have HKH1 : Hid (Blk w1 bh 24 #[.int .i64 Z, .slice E M ce]) := by rw [← hw1]; exact Blk.new' w _ _ hbh
  have HB1 : Hid (Below w.heap.size w w1) := by rw [← hw1]; exact (Below.refl _ _).alloc (Nat.le_refl _) _
  try rw [hbh]
  clear hw1 hbh
  have hs := xsmall_any w1 Z ce w.heap.size E es (by rw [HMM.out]; exact HE.out.below HB1.out) HB1.out.size
  rw [HMM.out] at hs
  refine hs.mono ?_
  rintro e w2 ⟨b, rfl, hb, hbw⟩
  have HBB := Lib.hid hb
  have HKH2 := Lib.hid (HKH1.out.below hbw HKH1.out.lt)
  have HB2 : Hid (Below w.heap.size w w2) := HB1.out.trans (hbw.mono HB1.out.size)
  clear hs hb hbw HKH1 HB1
  cases b with
  | false =>
    go_wp2_with fail
    go_ret
    exact ⟨false, rfl, ⟨fun h => by simp at h, fun ⟨N, h1, h2, h3, h4, h5, _⟩ => absurd (HBB.out.2 ⟨N, h1, h2, h3, h4, h5⟩) (by simp)⟩, HB2.out⟩
  | true =>
    obtain ⟨N, hZ, hN1, hN2, hM, hok⟩ := HBB.out.1 rfl
    subst hZ
    have HOK := Lib.hid hok
    have c0 : w2.cell? ⟨bh, 0, none⟩ = some (.int .i64 N) := HKH2.out.cell 0
    have c1 : w2.cell? ⟨bh, 1, none⟩ = some (.slice E M ce) := HKH2.out.cell 1
    clear hok HBB
    go_wp2_with fail
    have hs := rsolve_any w2 N ce w.heap.size E es (by rw [HMM.out]; exact HE.out.below HB2.out) HB2.out.size HOK.out hN2 hM
    rw [HMM.out] at hs
    refine hs.mono ?_
    rintro e w3 ⟨va, ea, V, rfl, hVl, KV, _, hsol, _, _, hbw⟩
    have HV := Lib.hid KV
    have HS := Lib.hid hsol
    have HB3 : Hid (Below w.heap.size w w3) := HB2.out.trans (hbw.mono HB2.out.size)
    clear hs hsol KV hbw c0 c1
    go_wp2_with fail
    go_loop [5] (fun x => ∃ k : Nat, k ≤ N ∧ x = .int .i64 k ∧ Hid (∀ i, i < k → (gv V i).s ≤ 1000)) (fun x => N - (intOf x).toNat)
    case atStart => exact ⟨0, Nat.zero_le _, rfl, fun i hi => absurd hi (Nat.not_lt_zero _)⟩
    case round =>
      obtain ⟨k, hk, rfl, HV2⟩ := hrel
      by_cases hlt : k < N
      case neg =>
        have hltD : decide (k < N) = false := by simp [hlt]
        obtain rfl : N = k := by omega
        go_wp2_with fail
        go_ret
        refine ⟨true, rfl, ⟨fun _ => ⟨N, rfl, hN1, hN2, hM, HOK.out, gv V, HS.out, fun i => ?_⟩, fun _ => rfl⟩, HB3.out⟩
        by_cases hi : i < N
        · exact HV2.out i hi
        · rw [gv, List.getElem?_eq_none (by omega)]
          decide
      case pos =>
        have hltD : decide (k < N) = true := by simp [hlt]
        obtain ⟨v, hv⟩ : ∃ v, V[k]? = some v := ⟨_, List.getElem?_eq_getElem (by omega)⟩
        obtain ⟨v0, v1⟩ := HV.out.vl_at hv
        have hgv : gv V k = v := by rw [gv, hv]; rfl
        have HGV := Lib.hid hgv
        clear hv hgv
        by_cases h4 : 1000 < v.s
        case pos =>
          have h4D : decide (1000 < v.s) = true := by simp [h4]
          have HNOT : Hid (¬ IsShort (N : Int) es) := fun ⟨_, _, _, _, _, _, V', hs', hz'⟩ => by
            obtain rfl := HS.out.uniq hs'
            have := hz' k
            rw [HGV.out] at this
            omega
          clear h4
          go_wp2_with fail
          go_ret
          exact ⟨false, rfl, ⟨fun h => by simp at h, fun h => absurd h HNOT.out⟩, HB3.out⟩
        case neg =>
          have h4D : decide (1000 < v.s) = false := by simp; omega
          have H4 := Lib.hid h4
          clear h4
          go_wp2_with fail
          go_round
          case rel => exact ⟨k + 1, by omega, by go_num, fun i hi => by
            by_cases hik : i = k
            · subst hik; rw [HGV.out]; have := H4.out; omega
            · exact HV2.out i (by omega)⟩
          case measure => simp [intOf]; omega
theorem xsmall33_any (w : World) (Z : Int) (ce B : Nat) (E : Option Addr) (es : List Ed) (hE : HG w B E es.length es) (hB : B ≤ w.heap.size) :
    Calls Try.prog 11 #[.agg #[.int .i64 Z, .slice E es.length ce]] w (RetB (IsShort Z es) w) := by
  have HE := Lib.hid (hE.more hB)
  clear hE
  obtain ⟨M, hMM⟩ : ∃ M, es.length = M := ⟨_, rfl⟩
  rw [hMM] at HE ⊢
  have HMM := Lib.hid hMM
  clear hMM
  go_enter Try.func11, Try.ntmps11
  go_wp2_with fail
  have hb1 : Below w.heap.size w (w.alloc (.cells #[.int .i64 Z, .slice E M ce] 24)) := (Below.refl _ _).alloc (Nat.le_refl _) _
  have hs := xshort_any (w.alloc (.cells #[.int .i64 Z, .slice E M ce] 24)) Z ce w.heap.size E es (by rw [HMM.out]; exact HE.out.below hb1) hb1.size
  rw [HMM.out] at hs
  refine hs.mono ?_
  rintro e w2 ⟨b, rfl, hb, hbw⟩
  have HB := Lib.hid hb
  clear hs hb
  go_wp2_with fail
  go_ret
  exact ⟨b, rfl, HB.out, hb1.trans (hbw.mono hb1.size)⟩
end Go.Proofs.Ytbalhkbpmahkgaa

namespace Go.Proofs.Ytbalhkbpmahkgaa
open Go.RowKit

set_option maxRecDepth 100000 in
set_option maxHeartbeats 8000000 in
theorem lawMat_any (Z : Int) (ce B : Nat) (E : Option Addr) (es : List Ed) (root : Int) (w : World) (hE : HG w B E es.length es) (hB : B ≤ w.heap.size) : Calls Try.prog 3 #[.agg #[.int .i64 Z, .slice E es.length ce], .int .i64 root] w fun e w' => e = .returned (.bool true) ∧ Below w.heap.size w w' := by
  have HE := Lib.hid (hE.more hB)
  clear hE
  obtain ⟨M, hMM⟩ : ∃ M, es.length = M := ⟨_, rfl⟩
  rw [hMM] at HE ⊢
  have HMM := Lib.hid hMM
  clear hMM
  go_enter Try.func3, Try.ntmps3
  go_wp2_with fail
  obtain ⟨w0, hw0⟩ : ∃ w0, w.alloc (.cells #[.int .i64 Z, .slice E M ce] 24) = w0 := ⟨_, rfl⟩
  rw [hw0]
  obtain ⟨bh, hbh⟩ : ∃ bh, w.heap.size = bh := ⟨_, rfl⟩
  have HKH0 : Hid (Blk w0 bh 24 #[.int .i64 Z, .slice E M ce]) := by rw [← hw0]; exact Blk.new' w _ _ hbh
  have HB0 : Hid (Below w.heap.size w w0) := by rw [← hw0]; exact (Below.refl _ _).alloc (Nat.le_refl _) _
  try rw [hbh]
  have HBH := Lib.hid hbh
  clear hw0 hbh
  refine (awake_any w0).mono ?_
  rintro e w2 ⟨rfl, hb1⟩
  have HKH2 := Lib.hid (HKH0.out.below hb1 HKH0.out.lt)
  have HB2 : Hid (Below w.heap.size w w2) := HB0.out.trans (hb1.mono HB0.out.size)
  clear hb1 HKH0 HB0
  have c0 : w2.cell? ⟨bh, 0, none⟩ = some (.int .i64 Z) := HKH2.out.cell 0
  have c1 : w2.cell? ⟨bh, 1, none⟩ = some (.slice E M ce) := HKH2.out.cell 1
  have HSX : Hid (∀ w9, Below w2.heap.size w2 w9 → Calls Try.prog 11 #[.agg #[.int .i64 Z, .slice E M ce]] w9 (RetB (IsShort Z es) w9)) := fun w9 h9 => by
    have hb9 : Below w.heap.size w w9 := HB2.out.trans (h9.mono HB2.out.size)
    have h := xsmall33_any w9 Z ce w.heap.size E es (by rw [HMM.out]; exact HE.out.below hb9) hb9.size
    rw [HMM.out] at h
    exact h
  go_upto_region 3 with fail
  have B8 : Below w2.heap.size w2 w2.drew := (Below.refl _ _).drew
  by_cases hP : IsShort Z es
  case neg =>
    have HSF : Hid (∀ w9, Below w2.heap.size w2 w9 → Calls Try.prog 11 #[.agg #[.int .i64 Z, .slice E M ce]] w9 fun e w' => e = .returned (.bool false) ∧ Below w9.heap.size w9 w') := fun w9 h9 => (HSX.out w9 h9).mono fun e w' ⟨b, h1, h2, h3⟩ => by
      cases b with
      | true => exact absurd (h2.1 rfl) hP
      | false => exact ⟨h1, h3⟩
    have HSU : Hid (∀ u : Ext w2, Calls Try.prog 11 #[.agg #[.int .i64 Z, .slice E M ce]] u.W fun e w' => e = .returned (.bool false) ∧ Below u.W.heap.size u.W w') := fun u => HSF.out u.W u.h
    have f0 := ext_cell c0
    have f1 := ext_cell c1
    clear c0 c1 hP
    refine wp_region_ext (by kernel_rfl) (by kernel_rfl) ?_
    repeat (go_big_quiet_step (with_reducible exact calls_ext (HSU.out _)))
    refine wpQuiet_nil ?_
    rintro _ ⟨u, rfl⟩
    go_wp2_with fail
    go_ret
    exact ⟨rfl, HB2.out.trans (u.h.mono HB2.out.size)⟩
  case pos =>
  have HSF : Hid (∀ w9, Below w2.heap.size w2 w9 → Calls Try.prog 11 #[.agg #[.int .i64 Z, .slice E M ce]] w9 fun e w' => e = .returned (.bool true) ∧ Below w9.heap.size w9 w') := fun w9 h9 => (HSX.out w9 h9).mono fun e w' ⟨b, h1, h2, h3⟩ => by
    cases b with
    | true => exact ⟨h1, h3⟩
    | false => exact absurd (h2.2 hP) (by simp)
  obtain ⟨N, hZ, hN1, hN2, hM, hok, V0, hsol0, hsz0⟩ := hP
  rw [HMM.out] at hM
  subst hZ
  have HOK := Lib.hid hok
  have H9 : Hid (∀ w9, Below w2.heap.size w2 w9 → w9.cell? ⟨bh, 0, none⟩ = some (.int .i64 N) ∧ w9.cell? ⟨bh, 1, none⟩ = some (.slice E M ce) ∧ Below w2.heap.size w2 w9) := fun w9 h => by
    have K := HKH2.out.below h HKH2.out.lt
    exact ⟨K.cell 0, K.cell 1, h⟩
  clear hok hsol0 hsz0 c0 c1
  have HCPO : Hid (∀ w9, Below w2.heap.size w2 w9 → Calls Try.prog 13 #[.agg #[.int .i64 N, .slice E M ce], .int .i64 root] w9 (RetL N (IsOut es root N) w9)) := fun w9 h9 => by
    have hb9 : Below w.heap.size w w9 := HB2.out.trans (h9.mono HB2.out.size)
    have h := poutside_any w9 N ce w.heap.size E es root (by rw [HMM.out]; exact HE.out.below hb9) hb9.size HOK.out hN2 hN1 (by rw [HMM.out]; exact hM)
    rw [HMM.out] at h
    exact h
  have HCRO : Hid (∀ w9, Below w2.heap.size w2 w9 → Calls Try.prog 14 #[.agg #[.int .i64 N, .slice E M ce], .int .i64 root] w9 (RetL N (IsOut es root N) w9)) := fun w9 h9 => by
    have hb9 : Below w.heap.size w w9 := HB2.out.trans (h9.mono HB2.out.size)
    have h := routside_any w9 N ce w.heap.size E es root (by rw [HMM.out]; exact HE.out.below hb9) hb9.size HOK.out hN2 hN1 (by rw [HMM.out]; exact hM)
    rw [HMM.out] at h
    exact h
  go_region_held3 (fun w9 => w9.cell? ⟨bh, 0, none⟩ = some (.int .i64 N) ∧ w9.cell? ⟨bh, 1, none⟩ = some (.slice E M ce) ∧ Below w2.heap.size w2 w9)
    (first | exact H9.out _ B8 | exact H9.out _ X6 | exact H9.out _ X5 | exact H9.out _ X4 | exact H9.out _ X3)
    (first
      | (go_at_call 11; (with_reducible refine (HSF.out _ B8).mono ?_); rintro e w3 ⟨rfl, hb⟩; have X3 : Below w2.heap.size w2 w3 := B8.trans (hb.mono B8.size))
      | (go_at_call 13; (with_reducible refine (HCPO.out _ X3).mono ?_); rintro e w4 ⟨g4, l4, rfl, hl4, kk, ho4, hg, hb⟩; have X4 : Below w2.heap.size w2 w4 := X3.trans (hb.mono X3.size); have K44 := Lib.hid kk; have L4 := Lib.hid (And.intro hl4 ho4); clear hl4 kk ho4 hg hb)
      | (go_at_call 14; (with_reducible refine (HCRO.out _ X4).mono ?_); rintro e w5 ⟨g5, l5, rfl, hl5, kk, ho5, hg, hb⟩; have X5 : Below w2.heap.size w2 w5 := X4.trans (hb.mono X4.size); have K55 := Lib.hid kk; have L5 := Lib.hid (And.intro hl5 ho5); have K45 := Lib.hid (K44.out.below hb K44.out.lt); clear hl5 kk ho5 hg hb)
      | (have hu5 := L4.out.2.uniq L5.out.2 L4.out.1 L5.out.1; (go_at_call 12; (with_reducible refine (same_b K45.out (by rw [hu5]; exact K55.out) L4.out.1 (by omega)).mono ?_); rintro e w6 ⟨rfl, hb⟩; have X6 : Below w2.heap.size w2 w6 := X5.trans (hb.mono X5.size); clear hb)))
  all_goals
    go_wp2_with fail
    go_ret
    exact ⟨rfl, HB2.out.trans (X6.mono HB2.out.size)⟩
end Go.Proofs.Ytbalhkbpmahkgaa

namespace Go.Proofs.Ytbalhkbpmahkgaa
open Go.ChangeShapes Go.WideShapes Go.ChangeAt Go.RowKit

set_option maxRecDepth 100000 in
theorem lawOuLMat_lifted (os : Os) (started : os.Started) (H : Type) (enc : TypeId × Value → H) :
    ReturnsInHanded {} Try.checked os 3 .any (Rows.outsideMatchesReferenceSpec.pre6 enc Try.prog Try.f3 Rows.outsideMatchesReferenceRow.domain false)
      (Rows.outsideMatchesReferenceSpec.post enc Try.prog Try.f3 false true false false) := by
  refine returnsInHanded_of_change (C := Try.checked) Try.own started (by kernel_rfl) Try.func3
    (ChangeSpec.witness6 (enc := enc) (C := Try.checked) false ⟨#[], #[.agg #[.int .i64 0, .slice none 0 0], .int .i64 0], []⟩ 8 (by kernel_rfl) (by kernel_rfl) (by kernel_rfl) (by kernel_rfl)) ?_
  intro W base args ds gs before hval0 hW hcnd _
  have hval : ∀ (j : Nat) t v, Try.f3.params[j]? = some t → args[j]? = some v → Value.okWide Try.prog W .any base t v := hval0
  have hW' := hW
  obtain ⟨p, q, hA0, hV, rfl, hfz, hnd⟩ := hW
  have hA : DataW.TrodAll enc Try.prog W 0 (fun _ => true) true Try.f3.params.toList args.toList ds p := hA0
  rw [Try.params3] at hA hval
  obtain ⟨v0, v1, d0, d1, p0, p1, rfl, rfl, rfl, h0, h1⟩ := trodAll_two hA
  obtain ⟨rfl, rfl⟩ := trodVars_none hV
  obtain ⟨Z0, A0, c0, es0, rfl, hg0, hec0, hc0⟩ := open_hg (hval 0 24 v0 rfl rfl) h0
  obtain ⟨x1, rfl, _, _, wx1⟩ := open_int Try.underlying3 (hval 1 3 v1 rfl rfl) h1
  refine (lawMat_any Z0 c0 W.heap.size A0 es0 x1 W hg0 (Nat.le_refl _)).mono fun e W' ⟨he, hb⟩ => ?_
  subst he
  exact ⟨_, rfl, law_post (by kernel_rfl) (by kernel_rfl) rfl (by kernel_rfl) hW' rfl rfl rfl hb⟩

theorem lawOuLMat_holds : Rows.OutsideMatchesReferenceSaid :=
  OpenClaim.holds_of_wide 3 Try.f3 rfl rfl rfl rfl rfl rfl rfl ⟨rfl, rfl, rfl, rfl, rfl⟩ rfl rfl rfl rfl rfl (by kernel_rfl) Try.func3 (by kernel_rfl)
    (of_decide_eq_true (by kernel_rfl)) (by unfold Func.isWrapper; first | (rw [if_pos (by decide +kernel)]; kernel_rfl) | (rw [if_neg (by decide +kernel)]; exact ⟨rfl, rfl⟩))
    (fun os started H enc _ => lawOuLMat_lifted os started H enc)
#print axioms lawOuLMat_holds
end Go.Proofs.Ytbalhkbpmahkgaa
