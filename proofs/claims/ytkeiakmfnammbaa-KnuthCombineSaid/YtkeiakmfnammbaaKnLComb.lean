/- The law KnuthCombine. -/
import Derived.Test.YtkeiakmfnammbaaKnAwake
namespace Go.Proofs.Ytkeiakmfnammbaa
open Go.RowKit

theorem comb_ways (cost : Int) (n : Nat) : decide (cost < 0) = true ∨ (decide (cost < 0) = false ∧ decide (1099511627776 < cost) = true) ∨ (decide (cost < 0) = false ∧ decide (1099511627776 < cost) = false ∧ decide (20 < n) = true ∧ decide ((20 : Int) < (n : Int)) = true) ∨
    (decide (cost < 0) = false ∧ decide (1099511627776 < cost) = false ∧ decide (20 < n) = false ∧ decide ((20 : Int) < (n : Int)) = false ∧ 0 ≤ cost ∧ cost ≤ 1099511627776 ∧ n ≤ 20) := by
  simp only [decide_eq_true_eq, decide_eq_false_iff_not]
  omega
set_option maxRecDepth 100000 in
set_option maxHeartbeats 4000000 in
theorem lawCombine_any (cost : Int) (A : Option Addr) (n c B : Nat) (l : List Vl) (w : World) (h : Reads w B 2 A n (vls l)) (hB : B ≤ w.heap.size) : Calls Try.prog 4 #[.int .i64 cost, .slice A n c] w fun e w' => e = .returned (.bool true) ∧ Below w.heap.size w w' := by
  have HR := Lib.hid (h.more hB)
  have HQ := run_eql_vl
  clear h
  rcases comb_ways cost n with h1 | ⟨h1, h2⟩ | ⟨h1, h2, h3, h4⟩ | ⟨h1, h2, h3, h4, h5, h6, h7⟩
  case inr.inr.inr =>
    have H5 := Lib.hid (And.intro h5 (And.intro h6 h7))
    clear h5 h6 h7
    go_enter Try.func4, Try.ntmps4
    go_wp2_with fail
    refine (ordinary_any w A n c w.heap.size l HR.out (by have := H5.out; omega)).mono ?_
    rintro e w1 ⟨b, rfl, hb, hbw⟩
    have HO := Lib.hid hb
    have HB1 := Lib.hid hbw
    clear hb hbw
    cases b with
    | false =>
      go_wp2_with fail
      refine (awake_any w1).mono ?_
      rintro e w2 ⟨rfl, hb2⟩
      go_wp2_with fail
      go_ret
      exact ⟨rfl, HB1.out.trans (hb2.mono HB1.out.size)⟩
    | true =>
      have HOO := Lib.hid (HO.out rfl)
      clear HO
      go_wp2_with fail
      refine (awake_any w1).mono ?_
      rintro e w2 ⟨rfl, hb2⟩
      have HB2 : Hid (Below w.heap.size w w2) := HB1.out.trans (hb2.mono HB1.out.size)
      clear hb2
      go_wp2_with fail
      refine (combine_any cost A n c w.heap.size l w2 (HR.out.below HB2.out) HB2.out.size H5.out.1 HOO.out (by have := H5.out; omega)).mono ?_
      rintro e w3 ⟨rfl, hb3⟩
      have HB3 : Hid (Below w.heap.size w w3) := HB2.out.trans (hb3.mono HB2.out.size)
      clear hb3
      go_wp2_with fail
      refine (rcombine_any cost A n c w.heap.size l w3 (HR.out.below HB3.out) HB3.out.size H5.out.1 H5.out.2.1 HOO.out (by have := H5.out; omega)).mono ?_
      rintro e w4 ⟨rfl, hb4⟩
      have HB4 : Hid (Below w.heap.size w w4) := HB3.out.trans (hb4.mono HB3.out.size)
      clear hb4
      obtain ⟨y, hy⟩ : ∃ y, comb cost l = y := ⟨_, rfl⟩
      rw [hy]
      clear hy
      have hd : (decide (y.c = y.c) && decide (y.s = y.s)) = true := by simp
      go_wp2_with fail
      go_ret
      exact ⟨rfl, HB4.out⟩
  all_goals
    go_enter Try.func4, Try.ntmps4
    go_wp2_with fail
    refine (awake_any w).mono ?_
    rintro e w2 ⟨rfl, hb2⟩
    go_wp2_with fail
    go_ret
    exact ⟨rfl, hb2⟩
end Go.Proofs.Ytkeiakmfnammbaa
