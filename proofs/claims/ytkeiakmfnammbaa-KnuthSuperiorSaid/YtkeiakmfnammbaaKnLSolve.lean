/- The law KnuthSolve. -/
import Derived.Test.YtkeiakmfnammbaaKnAwake
namespace Go.Proofs.Ytkeiakmfnammbaa
open Go.RowKit

/-- Two answers of one solution are alike. -/
theorem vals_eq {es : List Ed} {V V' : List Vl} (h : Sol es (gv V)) (h' : Sol es (gv V')) (hl : V.length = V'.length) : V = V' := by
  have hu := h.uniq h'
  apply List.ext_getElem?
  intro i
  have := congrFun hu i
  unfold gv at this
  by_cases hi : i < V.length
  · rw [List.getElem?_eq_getElem hi, List.getElem?_eq_getElem (by omega)] at this ⊢
    simpa using this
  · rw [List.getElem?_eq_none (by omega), List.getElem?_eq_none (by omega)]
set_option maxRecDepth 100000 in
set_option maxHeartbeats 4000000 in
theorem lawSolve_any (Z : Int) (ce B : Nat) (E : Option Addr) (es : List Ed) (w : World) (hE : HG w B E es.length es) (hB : B ≤ w.heap.size) : Calls Try.prog 6 #[.agg #[.int .i64 Z, .slice E es.length ce]] w fun e w' => e = .returned (.bool true) ∧ Below w.heap.size w w' := by
  have HE := Lib.hid (hE.more hB)
  clear hE
  obtain ⟨M, hMM⟩ : ∃ M, es.length = M := ⟨_, rfl⟩
  rw [hMM] at HE ⊢
  have HMM := Lib.hid hMM
  clear hMM
  go_enter Try.func6, Try.ntmps6
  go_wp2_with fail
  obtain ⟨w1, hw1⟩ : ∃ w1, w.alloc (.cells #[.int .i64 Z, .slice E M ce] 34) = w1 := ⟨_, rfl⟩
  rw [hw1]
  obtain ⟨bh, hbh⟩ : ∃ bh, w.heap.size = bh := ⟨_, rfl⟩
  have HKH1 : Hid (Blk w1 bh 34 #[.int .i64 Z, .slice E M ce]) := by rw [← hw1]; exact Blk.new' w _ _ hbh
  have HB1 : Hid (Below w.heap.size w w1) := by rw [← hw1]; exact (Below.refl _ _).alloc (Nat.le_refl _) _
  try rw [hbh]
  clear hw1 hbh
  have hs := bounded_any w1 Z ce w.heap.size E es (by rw [HMM.out]; exact HE.out.below HB1.out) HB1.out.size
  rw [HMM.out] at hs
  refine hs.mono ?_
  rintro e w2 ⟨b, rfl, hb, hbw⟩
  have HBB := Lib.hid hb
  have HKH2 := Lib.hid (HKH1.out.below hbw HKH1.out.lt)
  have HB2 : Hid (Below w.heap.size w w2) := HB1.out.trans (hbw.mono HB1.out.size)
  clear hs hb hbw HKH1 HB1
  cases b with
  | false =>
    go_wp2_with fail
    refine (awake_any w2).mono ?_
    rintro e w3 ⟨rfl, hb3⟩
    go_wp2_with fail
    go_ret
    exact ⟨rfl, HB2.out.trans (hb3.mono HB2.out.size)⟩
  | true =>
    obtain ⟨N, hZ, hN1, hN2, hM, hok, _, _⟩ := HBB.out rfl
    rw [HMM.out] at hM
    subst hZ
    have HOK := Lib.hid hok
    have c0 : w2.cell? ⟨bh, 0, none⟩ = some (.int .i64 N) := HKH2.out.cell 0
    have c1 : w2.cell? ⟨bh, 1, none⟩ = some (.slice E M ce) := HKH2.out.cell 1
    clear hok HBB
    go_wp2_with fail
    have hs := solve_any w2 N ce w.heap.size E es (by rw [HMM.out]; exact HE.out.below HB2.out) HB2.out.size HOK.out hN2 (by rw [HMM.out]; exact hM)
    rw [HMM.out] at hs
    refine hs.mono ?_
    rintro e w3 ⟨va, ea, V, rfl, hVl, KV, KE, hsol, _, _, hbw⟩
    have HV := Lib.hid KV
    have HKE := Lib.hid KE
    have HS := Lib.hid (And.intro hsol hVl)
    have HKH3 := Lib.hid (HKH2.out.below hbw HKH2.out.lt)
    have HB3 : Hid (Below w.heap.size w w3) := HB2.out.trans (hbw.mono HB2.out.size)
    clear hs hsol hVl KV KE hbw c0 c1
    have c0 : w3.cell? ⟨bh, 0, none⟩ = some (.int .i64 N) := HKH3.out.cell 0
    have c1 : w3.cell? ⟨bh, 1, none⟩ = some (.slice E M ce) := HKH3.out.cell 1
    go_wp2_with fail
    have hs := rsolve_any w3 N ce w.heap.size E es (by rw [HMM.out]; exact HE.out.below HB3.out) HB3.out.size HOK.out hN2 (by rw [HMM.out]; exact hM)
    rw [HMM.out] at hs
    refine hs.mono ?_
    rintro e w4 ⟨va', ea', V', rfl, hVl, KV, KE, hsol, _, _, hbw⟩
    obtain rfl : V = V' := vals_eq HS.out.1 hsol (HS.out.2.trans hVl.symm)
    have HV4 := Lib.hid (HV.out.below hbw HV.out.lt)
    have HKE4 := Lib.hid (HKE.out.below hbw HKE.out.lt)
    have HV4' := Lib.hid KV
    have HKE4' := Lib.hid KE
    have HB4 : Hid (Below w.heap.size w w4) := HB3.out.trans (hbw.mono HB3.out.size)
    clear hs hsol hVl KV KE hbw c0 c1
    go_wp2_with fail
    refine (awake_any w4).mono ?_
    rintro e w5 ⟨rfl, hb5⟩
    go_wp2_with fail
    refine (samev_any w5 (some ⟨va, 0, none⟩) (some ⟨va', 0, none⟩) N N N w5.heap.size w5.heap.size V (Reads.of_blk (HV4.out.below hb5 HV4.out.lt) (Nat.lt_of_lt_of_le HV4.out.lt hb5.size) (by simp) (by rw [vls_length, HS.out.2])) (Reads.of_blk (HV4'.out.below hb5 HV4'.out.lt) (Nat.lt_of_lt_of_le HV4'.out.lt hb5.size) (by simp) (by rw [vls_length, HS.out.2])) (by omega)).mono ?_
    rintro e w6 ⟨rfl, hb6⟩
    have hb56 := hb5.trans (hb6.mono hb5.size)
    have H56 := Lib.hid hb56
    clear hb5 hb6 hb56
    go_wp2_with fail
    refine (samei_any w6 (some ⟨ea, 0, none⟩) (some ⟨ea', 0, none⟩) N N N w6.heap.size w6.heap.size (chs (gv V) es N) (Reads.of_blk (HKE4.out.below H56.out HKE4.out.lt) (Nat.lt_of_lt_of_le HKE4.out.lt H56.out.size) (by simp) (by simp [ints, chs_len])) (Reads.of_blk (HKE4'.out.below H56.out HKE4'.out.lt) (Nat.lt_of_lt_of_le HKE4'.out.lt H56.out.size) (by simp) (by simp [ints, chs_len])) (by omega)).mono ?_
    rintro e w7 ⟨rfl, hb7⟩
    go_wp2_with fail
    go_ret
    exact ⟨rfl, HB4.out.trans ((H56.out.trans (hb7.mono H56.out.size)).mono HB4.out.size)⟩
end Go.Proofs.Ytkeiakmfnammbaa
