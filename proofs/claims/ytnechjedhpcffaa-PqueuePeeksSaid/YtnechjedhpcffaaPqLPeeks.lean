/- PqueuePeeks returns true. -/
import Derived.Test.YtnechjedhpcffaaPqKeys
import Derived.Deep.DeepCutAuto
namespace Go.Proofs.Ytnechjedhpcffaa
open Go.RowKit

theorem run_neq_elem (w : World) (a b c d : Int) : (binOp .neq 27 (.agg #[.int .i64 a, .int .i64 b]) (.agg #[.int .i64 c, .int .i64 d])).run Try.prog w = .ok (.bool (!(a == c && b == d))) w := by
  simp only [binOp]
  by_cases h1 : a = c
  · by_cases h2 : b = d <;> simp [go_sem, Op.equal, Op.maxDepth, h1, h2]
  · simp [go_sem, Op.equal, Op.maxDepth, h1]
set_option maxRecDepth 100000 in
set_option maxHeartbeats 4000000 in
theorem lawPeeks_any (A : Option Addr) (n c B : Nat) (ks : List Int) (w : World) (hl : Reads w B 1 A n (ints ks)) (hB : B ≤ w.heap.size) :
    Calls Try.prog 6 #[.slice A n c] w fun e w' => e = .returned (.bool true) ∧ Below w.heap.size w w' := by
  have HL := Lib.hid (hl.more hB)
  clear hl
  have hneq := fun w => run_neq_elem w
  go_enter Try.func6, Try.ntmps6
  by_cases hn : n ≤ 100
  case neg =>
    have hnD : decide ((100 : Int) < (n : Int)) = true := by simp; omega
    go_wp2_with fail
    refine (awake_any _).mono ?_
    rintro e wa ⟨rfl, hba⟩
    go_wp2_with fail
    go_ret
    exact ⟨rfl, hba⟩
  case pos =>
  have hnD : decide ((100 : Int) < (n : Int)) = false := by simp; omega
  go_wp2_with fail
  refine (newq_any w).mono ?_
  rintro e w1 ⟨rfl, ⟨F1, h1⟩, hb1⟩
  have H1 := Lib.hid h1
  have hs1 := hb1.size
  obtain ⟨q, hq⟩ : ∃ q, w.heap.size + 1 = q := ⟨_, rfl⟩
  rw [hq] at H1 ⊢
  clear h1 hq
  go_wp2_with fail
  go_loopw [4] (fun a wr => ∃ i : Nat, i ≤ n ∧ a = .int .i64 i ∧ (∃ F, Hid (QB wr w.heap.size q F (Lk ks i) i i)) ∧ Below w.heap.size w wr) (fun a _ => n - (intOf a).toNat)
  case atStart => exact ⟨0, Nat.zero_le _, rfl, ⟨F1, H1⟩, hb1⟩
  case round =>
    obtain ⟨i, hi, rfl, ⟨F, HQ⟩, hbr⟩ := hrel
    clear H1 hb1 hs1
    have hsr := hbr.size
    by_cases hlt : i < n
    case pos =>
      have hltD : decide (i < n) = true := by simp [hlt]
      obtain ⟨b, off, rfl, _, hk⟩ := (HL.out.below hbr).int_at hlt
      go_wp2_with fail
      refine (pushq_any _ _ HQ.out (by omega) (by omega)).mono ?_
      rintro e w2 ⟨rfl, G, h2, s2⟩
      rw [Lk_succ] at h2
      have H2 := Lib.hid h2
      have hb2 := hbr.trans (s2.below hsr)
      clear h2 s2
      go_wp2_with fail
      go_roundw
      case rel => exact ⟨i + 1, by omega, by go_num, ⟨G, H2⟩, hb2⟩
      case measure => simp [intOf]; omega
    case neg =>
      have hltD : decide (i < n) = false := by simp [hlt]
      obtain rfl : i = n := by omega
      clear hlt hi
      go_wp2_with fail
      go_loopw [5] (fun a wr2 => ∃ k : Nat, k ≤ i + 1 ∧ a = .int .i64 k ∧ (∃ (F : Nat → Prop) (R : List Ent), Hid (QB wr2 w.heap.size q F R i i) ∧ R.length = i - k) ∧ Below w.heap.size w wr2) (fun a _ => i + 1 - (intOf a).toNat)
      case atStart => exact ⟨0, Nat.zero_le _, rfl, ⟨F, Lk ks i, HQ, by rw [Lk_length]; omega⟩, hbr⟩
      case round =>
        obtain ⟨k, hk, rfl, ⟨F, R, HQ, hR⟩, hbr⟩ := hrel
        have hsr := hbr.size
        rename World => wz
        by_cases hlt : k ≤ i
        case neg =>
          have hltD : decide ((k : Int) ≤ (i : Int)) = false := by simp; omega
          go_wp2_with fail
          refine (awake_any _).mono ?_
          rintro e w5 ⟨rfl, hb5⟩
          go_wp2_with fail
          go_ret
          exact ⟨rfl, hbr.trans (hb5.mono hsr)⟩
        case pos =>
        have hltD : decide ((k : Int) ≤ (i : Int)) = true := by simp; omega
        have u1 : IntKind.i64.wrap ((i : Int) - k) = (i : Int) - k := IntWalk.i64_in _ (by omega)
        by_cases hki : k < i
        case pos =>
          have hne : R ≠ [] := by intro e; rw [e] at hR; simp at hR; omega
          obtain ⟨m, R', hmin, hperm⟩ := popq_first HQ.out hne
          obtain ⟨mk, mi, mh, mt⟩ := m
          have HMI := Lib.hid hmin
          have HPE := Lib.hid hperm
          have hR' : R'.length = i - (k + 1) := by have := hperm.length_eq; simp at this; omega
          have HR' := Lib.hid hR'
          obtain ⟨r, hr⟩ : ∃ r, R.length = r := ⟨_, rfl⟩
          have HRR := Lib.hid hr
          have hrk : (i : Int) - k = (r : Int) := by omega
          have hr0 : 0 < r := by omega
          have d1 : decide (0 < r) = true := by simp [hr0]
          have d2 : ((r : Int) != (i : Int) - k) = false := by rw [hrk]; simp
          clear hmin hperm hne hR' hr
          go_wp2_with fail
          refine (peekq_any HQ.out HMI.out).mono ?_
          rintro e w2 ⟨rfl, hb2⟩
          have HQ2 := Lib.hid ((HQ.out.below hb2).alloc (.cells #[.int .i64 mk, .int .i64 mi] 27))
          have X2 := Lib.hid ((HQ.out.below hb2).new 27 #[.int .i64 mk, .int .i64 mi])
          have hc2 := (hbr.trans (hb2.mono hsr)).alloc (Nat.le_trans hsr hb2.size) (.cells #[.int .i64 mk, .int .i64 mi] 27)
          have hs2 := hc2.size
          go_wp2_with fail
          refine (peekq_any HQ2.out HMI.out).mono ?_
          rintro e w3 ⟨rfl, hb3⟩
          have HQ3 := Lib.hid ((HQ2.out.below hb3).alloc (.cells #[.int .i64 mk, .int .i64 mi] 27))
          have Y3 := Lib.hid ((HQ2.out.below hb3).new 27 #[.int .i64 mk, .int .i64 mi])
          have X3 := Lib.hid ((X2.out.below hb3).below ((Below.refl _ _).alloc (Nat.le_refl _) (.cells #[.int .i64 mk, .int .i64 mi] 27)))
          have hc3 := (hc2.trans (hb3.mono hs2)).alloc (Nat.le_trans hs2 hb3.size) (.cells #[.int .i64 mk, .int .i64 mi] 27)
          have hs3 := hc3.size
          go_wp2_with fail
          refine (lenq_any HQ3.out).mono ?_
          rw [HRR.out]
          rintro e w4 ⟨rfl, hb4⟩
          have HQ4 := Lib.hid (HQ3.out.below hb4)
          have X4 := Lib.hid (X3.out.below hb4)
          have Y4 := Lib.hid (Y3.out.below hb4)
          have hc4 := hc3.trans (hb4.mono hs3)
          have hs4 := hc4.size
          go_wp2_with fail
          refine (popq_any HQ4.out HMI.out HPE.out).mono ?_
          rintro e w5 ⟨rfl, G, h5, s5⟩
          have HQ5 := Lib.hid (h5.alloc (.cells #[.int .i64 mk, .int .i64 mi] 27))
          have Z5 := h5.new 27 #[.int .i64 mk, .int .i64 mi]
          have X5 := (X4.out.step s5).below ((Below.refl _ _).alloc (Nat.le_refl _) (.cells #[.int .i64 mk, .int .i64 mi] 27))
          have Y5 := (Y4.out.step s5).below ((Below.refl _ _).alloc (Nat.le_refl _) (.cells #[.int .i64 mk, .int .i64 mi] 27))
          have hc5' := hc4.trans (s5.below hs4)
          have hc5 := hc5'.alloc hc5'.size (.cells #[.int .i64 mk, .int .i64 mi] 27)
          have x0 := X5.1.cell 0
          have x1 := X5.1.cell 1
          have y0 := Y5.1.cell 0
          have y1 := Y5.1.cell 1
          have z0 := Z5.1.cell 0
          have z1 := Z5.1.cell 1
          simp at x0 x1 y0 y1 z0 z1
          clear X5 Y5 Z5 h5 s5
          go_wp2_with fail
          go_roundw
          case rel => exact ⟨k + 1, by omega, by go_num, ⟨G, R', HQ5, HR'.out⟩, hc5⟩
          case measure => simp [intOf]; omega
        case neg =>
          obtain rfl : k = i := by omega
          obtain rfl : R = [] := List.eq_nil_of_length_eq_zero (by omega)
          have u2 : (k : Int) - k = 0 := by omega
          have d1 : ((0 : Int) != 0) = false := rfl
          go_wp2_with fail
          refine (peekq_none HQ.out).mono ?_
          rintro e w2 ⟨rfl, hb2⟩
          have HQ2 := Lib.hid ((HQ.out.below hb2).alloc (.cells #[.int .i64 0, .int .i64 0] 27))
          have X2 := Lib.hid ((HQ.out.below hb2).new 27 #[.int .i64 0, .int .i64 0])
          have hc2 := (hbr.trans (hb2.mono hsr)).alloc (Nat.le_trans hsr hb2.size) (.cells #[.int .i64 0, .int .i64 0] 27)
          have hs2 := hc2.size
          go_wp2_with fail
          refine (peekq_none HQ2.out).mono ?_
          rintro e w3 ⟨rfl, hb3⟩
          have HQ3 := Lib.hid ((HQ2.out.below hb3).alloc (.cells #[.int .i64 0, .int .i64 0] 27))
          have Y3 := Lib.hid ((HQ2.out.below hb3).new 27 #[.int .i64 0, .int .i64 0])
          have X3 := Lib.hid ((X2.out.below hb3).below ((Below.refl _ _).alloc (Nat.le_refl _) (.cells #[.int .i64 0, .int .i64 0] 27)))
          have hc3 := (hc2.trans (hb3.mono hs2)).alloc (Nat.le_trans hs2 hb3.size) (.cells #[.int .i64 0, .int .i64 0] 27)
          have hs3 := hc3.size
          go_wp2_with fail
          refine (lenq_any HQ3.out).mono ?_
          rintro e w4 ⟨rfl, hb4⟩
          have HQ4 := Lib.hid (HQ3.out.below hb4)
          have X4 := Lib.hid (X3.out.below hb4)
          have Y4 := Lib.hid (Y3.out.below hb4)
          have hc4 := hc3.trans (hb4.mono hs3)
          have hs4 := hc4.size
          go_wp2_with fail
          refine (popq_none HQ4.out).mono ?_
          rintro e w5 ⟨rfl, hb5⟩
          have HQ5 := Lib.hid ((HQ4.out.below hb5).alloc (.cells #[.int .i64 0, .int .i64 0] 27))
          have Z5 := (HQ4.out.below hb5).new 27 #[.int .i64 0, .int .i64 0]
          have X5 := (X4.out.below hb5).below ((Below.refl _ _).alloc (Nat.le_refl _) (.cells #[.int .i64 0, .int .i64 0] 27))
          have Y5 := (Y4.out.below hb5).below ((Below.refl _ _).alloc (Nat.le_refl _) (.cells #[.int .i64 0, .int .i64 0] 27))
          have hc5' := hc4.trans (hb5.mono hs4)
          have hc5 := hc5'.alloc hc5'.size (.cells #[.int .i64 0, .int .i64 0] 27)
          have x0 := X5.1.cell 0
          have x1 := X5.1.cell 1
          have y0 := Y5.1.cell 0
          have y1 := Y5.1.cell 1
          have z0 := Z5.1.cell 0
          have z1 := Z5.1.cell 1
          simp at x0 x1 y0 y1 z0 z1
          clear X5 Y5 Z5
          go_wp2_with fail
          go_roundw
          case rel => exact ⟨k + 1, by omega, by go_num, ⟨F, [], HQ5, by simp⟩, hc5⟩
          case measure => simp [intOf] <;> omega
end Go.Proofs.Ytnechjedhpcffaa
