/- The law KnuthLess. -/
import Derived.Test.YtkeiakmfnammbaaKnAwake
namespace Go.Proofs.Ytkeiakmfnammbaa
open Go.RowKit

/-- The order's three cases. -/
theorem vlt_cases (a b : Vl) : (vlt a.c a.s b.c b.s = true ∧ vlt b.c b.s a.c a.s = false ∧ (decide (a.c = b.c) && decide (a.s = b.s)) = false) ∨
    (vlt a.c a.s b.c b.s = false ∧ vlt b.c b.s a.c a.s = true ∧ (decide (a.c = b.c) && decide (a.s = b.s)) = false) ∨ (vlt a.c a.s b.c b.s = false ∧ vlt b.c b.s a.c a.s = false ∧ (decide (a.c = b.c) && decide (a.s = b.s)) = true) := by
  unfold vlt
  simp only [Bool.or_eq_true, Bool.or_eq_false_iff, Bool.and_eq_true, Bool.and_eq_false_iff, decide_eq_true_eq, decide_eq_false_iff_not, beq_iff_eq, beq_eq_false_iff_ne, ne_eq]
  omega
theorem vlt_irr (a : Vl) : vlt a.c a.s a.c a.s = false := by
  unfold vlt
  simp
theorem vlt_trans {a b c : Vl} (h : vlt a.c a.s b.c b.s = true) (h' : vlt b.c b.s c.c c.s = true) : vlt a.c a.s c.c c.s = true := by
  unfold vlt at *
  simp only [Bool.or_eq_true, Bool.and_eq_true, decide_eq_true_eq, beq_iff_eq] at *
  omega
/-- Less as a region meets it. -/
theorem less_b {a b : Vl} {r : Bool} (h : vlt a.c a.s b.c b.s = r) : Hid (∀ w, Calls Try.prog 13 #[.agg #[.int .i64 a.c, .int .i64 a.s], .agg #[.int .i64 b.c, .int .i64 b.s]] w fun e w' => e = .returned (.bool r) ∧ Below w.heap.size w w') := fun w => by
  rw [← h]; exact vless_any _ _ _ _ w
theorem rless_b {a b : Vl} {r : Bool} (h : vlt a.c a.s b.c b.s = r) : Hid (∀ w, Calls Try.prog 14 #[.agg #[.int .i64 a.c, .int .i64 a.s], .agg #[.int .i64 b.c, .int .i64 b.s]] w fun e w' => e = .returned (.bool r) ∧ Below w.heap.size w w') := fun w => by
  rw [← h]; exact rless_any _ _ _ _ w
set_option maxRecDepth 100000 in
set_option maxHeartbeats 4000000 in
theorem lawLess_any (a b c : Vl) (w : World) : Calls Try.prog 3 #[.agg #[.int .i64 a.c, .int .i64 a.s], .agg #[.int .i64 b.c, .int .i64 b.s], .agg #[.int .i64 c.c, .int .i64 c.s]] w fun e w' => e = .returned (.bool true) ∧ Below w.heap.size w w' := by
  have hb0 : Below w.heap.size w (((w.alloc (.cells #[.int .i64 a.c, .int .i64 a.s] 23)).alloc (.cells #[.int .i64 b.c, .int .i64 b.s] 23)).alloc (.cells #[.int .i64 c.c, .int .i64 c.s] 23)) := (((Below.refl _ _).alloc (Nat.le_refl _) _).alloc (by simp) _).alloc (by simp; omega) _
  have HAA := less_b (vlt_irr a)
  have HBCR : ∃ r, vlt b.c b.s c.c c.s = r := ⟨_, rfl⟩
  obtain ⟨rbc, hbc⟩ := HBCR
  obtain ⟨rac, hac⟩ : ∃ r, vlt a.c a.s c.c c.s = r := ⟨_, rfl⟩
  have HBC := less_b hbc
  have HAC := less_b hac
  have HQ := run_eql_vl
  have HT : Hid (vlt a.c a.s b.c b.s = true → rbc = true → rac = true) := fun h h' => by rw [← hac]; exact vlt_trans h (hbc.trans h')
  clear hbc hac
  go_enter Try.func3, Try.ntmps3
  go_upto_region 1 with fail
  obtain ⟨w1, hw1⟩ : ∃ w1, ((w.alloc (.cells #[.int .i64 a.c, .int .i64 a.s] 23)).alloc (.cells #[.int .i64 b.c, .int .i64 b.s] 23)).alloc (.cells #[.int .i64 c.c, .int .i64 c.s] 23) = w1 := ⟨_, rfl⟩
  obtain ⟨N, hN⟩ : ∃ N, w.heap.size = N := ⟨_, rfl⟩
  have HKA : Hid (Blk w1 N 23 #[.int .i64 a.c, .int .i64 a.s]) := by rw [← hw1]; exact ((Blk.new' w _ _ hN).alloc _).alloc _
  have HKB : Hid (Blk w1 (N + 1) 23 #[.int .i64 b.c, .int .i64 b.s]) := by rw [← hw1]; exact (Blk.new' _ _ _ (by simp; omega)).alloc _
  have HKC : Hid (Blk w1 (N + 1 + 1) 23 #[.int .i64 c.c, .int .i64 c.s]) := by rw [← hw1]; exact Blk.new' _ _ _ (by simp; omega)
  rw [hw1] at hb0 ⊢
  have HB1 := Lib.hid hb0
  rw [hN]
  clear hw1 hN hb0
  have a0 := ext_cell (show w1.cell? ⟨N, 0, none⟩ = some (.int .i64 a.c) from HKA.out.cell 0)
  have a1 := ext_cell (show w1.cell? ⟨N, 1, none⟩ = some (.int .i64 a.s) from HKA.out.cell 1)
  have b0 := ext_cell (show w1.cell? ⟨N + 1, 0, none⟩ = some (.int .i64 b.c) from HKB.out.cell 0)
  have b1 := ext_cell (show w1.cell? ⟨N + 1, 1, none⟩ = some (.int .i64 b.s) from HKB.out.cell 1)
  go_cut [7] (fun x7 wx => x7 = .bool true ∧ Below w1.heap.size w1 wx)
  case first =>
    rcases vlt_cases a b with ⟨h1, h2, h3⟩ | ⟨h1, h2, h3⟩ | ⟨h1, h2, h3⟩
    all_goals
      have HAB := less_b h1
      have HABR := rless_b h1
      have HBA := less_b h2
      clear h1 h2 HT HBC HAC
      go_wp2_with fail
      refine wp_region_ext (by kernel_rfl) (by kernel_rfl) ?_
      repeat (go_big_quiet_step ((first | with_reducible exact calls_ext (HAA.out _) | with_reducible exact calls_ext (HAB.out _) | with_reducible exact calls_ext (HABR.out _) | with_reducible exact calls_ext (HBA.out _))))
      refine wpQuiet_nil ?_
      rintro _ ⟨u, rfl⟩
      go_wp2_with fail
      go_meet
      exact ⟨by simp, u.h⟩
  case rest =>
    obtain ⟨rfl, hx⟩ := hcut
    rename World => w2
    have HKA2 := Lib.hid (HKA.out.below hx HKA.out.lt)
    have HKB2 := Lib.hid (HKB.out.below hx HKB.out.lt)
    have HKC2 := Lib.hid (HKC.out.below hx HKC.out.lt)
    have HB2 : Hid (Below w.heap.size w w2) := HB1.out.trans (hx.mono HB1.out.size)
    clear hx a0 a1 b0 b1 HAA HQ HKA HKB HKC
    go_wp2_with fail
    refine (awake_any w2).mono ?_
    rintro e w3 ⟨rfl, hb3⟩
    have HKA3 := Lib.hid (HKA2.out.below hb3 HKA2.out.lt)
    have HKB3 := Lib.hid (HKB2.out.below hb3 HKB2.out.lt)
    have HKC3 := Lib.hid (HKC2.out.below hb3 HKC2.out.lt)
    have HB3 : Hid (Below w.heap.size w w3) := HB2.out.trans (hb3.mono HB2.out.size)
    clear hb3 HKA2 HKB2 HKC2
    have a0 : w3.cell? ⟨N, 0, none⟩ = some (.int .i64 a.c) := HKA3.out.cell 0
    have a1 : w3.cell? ⟨N, 1, none⟩ = some (.int .i64 a.s) := HKA3.out.cell 1
    have b0 : w3.cell? ⟨N + 1, 0, none⟩ = some (.int .i64 b.c) := HKB3.out.cell 0
    have b1 : w3.cell? ⟨N + 1, 1, none⟩ = some (.int .i64 b.s) := HKB3.out.cell 1
    cases h1 : vlt a.c a.s b.c b.s with
    | false =>
      have HAB := less_b h1
      clear h1 HT
      go_wp2_with fail
      refine (HAB.out w3).mono ?_
      rintro e w4 ⟨rfl, hb4⟩
      go_wp2_with fail
      go_ret
      exact ⟨rfl, HB3.out.trans (hb4.mono HB3.out.size)⟩
    | true =>
      have HAB := less_b h1
      have HT2 : Hid (rbc = true → rac = true) := HT.out h1
      clear h1 HT
      go_wp2_with fail
      refine (HAB.out w3).mono ?_
      rintro e w4 ⟨rfl, hb4⟩
      have HKA4 := Lib.hid (HKA3.out.below hb4 HKA3.out.lt)
      have HKB4 := Lib.hid (HKB3.out.below hb4 HKB3.out.lt)
      have HKC4 := Lib.hid (HKC3.out.below hb4 HKC3.out.lt)
      have HB4 : Hid (Below w.heap.size w w4) := HB3.out.trans (hb4.mono HB3.out.size)
      clear hb4 a0 a1 b0 b1 HKA3 HKB3 HKC3
      have b0 : w4.cell? ⟨N + 1, 0, none⟩ = some (.int .i64 b.c) := HKB4.out.cell 0
      have b1 : w4.cell? ⟨N + 1, 1, none⟩ = some (.int .i64 b.s) := HKB4.out.cell 1
      have c0 : w4.cell? ⟨N + 1 + 1, 0, none⟩ = some (.int .i64 c.c) := HKC4.out.cell 0
      have c1 : w4.cell? ⟨N + 1 + 1, 1, none⟩ = some (.int .i64 c.s) := HKC4.out.cell 1
      go_wp2_with fail
      refine (HBC.out w4).mono ?_
      rintro e w5 ⟨rfl, hb5⟩
      have HB5 : Hid (Below w.heap.size w w5) := HB4.out.trans (hb5.mono HB4.out.size)
      have a0 : w5.cell? ⟨N, 0, none⟩ = some (.int .i64 a.c) := (HKA4.out.below hb5 HKA4.out.lt).cell 0
      have a1 : w5.cell? ⟨N, 1, none⟩ = some (.int .i64 a.s) := (HKA4.out.below hb5 HKA4.out.lt).cell 1
      have c2 : w5.cell? ⟨N + 1 + 1, 0, none⟩ = some (.int .i64 c.c) := (HKC4.out.below hb5 HKC4.out.lt).cell 0
      have c3 : w5.cell? ⟨N + 1 + 1, 1, none⟩ = some (.int .i64 c.s) := (HKC4.out.below hb5 HKC4.out.lt).cell 1
      clear hb5 b0 b1 c0 c1
      cases rbc with
      | false =>
        go_wp2_with fail
        go_ret
        exact ⟨rfl, HB5.out⟩
      | true =>
        have hr := HT2.out rfl
        subst hr
        go_wp2_with fail
        refine (HAC.out w5).mono ?_
        rintro e w6 ⟨rfl, hb6⟩
        go_wp2_with fail
        go_ret
        exact ⟨rfl, HB5.out.trans (hb6.mono HB5.out.size)⟩
end Go.Proofs.Ytkeiakmfnammbaa
