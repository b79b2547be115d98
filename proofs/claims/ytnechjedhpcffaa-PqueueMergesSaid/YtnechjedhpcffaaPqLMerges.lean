/- PqueueMerges returns true. -/
import Derived.Test.YtnechjedhpcffaaPqKeys
import Derived.Deep.DeepCutAuto
namespace Go.Proofs.Ytnechjedhpcffaa
open Go.RowKit

set_option maxRecDepth 100000 in
set_option maxHeartbeats 4000000 in
theorem lawMerges_any (A : Option Addr) (n c B : Nat) (ks : List Int) (A2 : Option Addr) (n2 c2 : Nat) (ls : List Int) (w : World) (hl : Reads w B 1 A n (ints ks)) (hB : B ≤ w.heap.size) (hl2 : Reads w B 1 A2 n2 (ints ls)) :
    Calls Try.prog 7 #[.slice A n c, .slice A2 n2 c2] w fun e w' => e = .returned (.bool true) ∧ Below w.heap.size w w' := by
  have HL := Lib.hid (hl.more hB)
  clear hl
  have HLB := Lib.hid (hl2.more hB)
  clear hl2
  go_enter Try.func7, Try.ntmps7
  by_cases hn : n ≤ 50
  case neg =>
    have hnD : decide ((50 : Int) < (n : Int)) = true := by simp; omega
    go_wp2_with fail
    refine (awake_any _).mono ?_
    rintro e wa ⟨rfl, hba⟩
    go_wp2_with fail
    go_ret
    exact ⟨rfl, hba⟩
  case pos =>
  have hnD : decide ((50 : Int) < (n : Int)) = false := by simp; omega
  by_cases hn2 : n2 ≤ 50
  case neg =>
    have hnD2 : decide ((50 : Int) < (n2 : Int)) = true := by simp; omega
    go_wp2_with fail
    refine (awake_any _).mono ?_
    rintro e wa ⟨rfl, hba⟩
    go_wp2_with fail
    go_ret
    exact ⟨rfl, hba⟩
  case pos =>
  have hnD2 : decide ((50 : Int) < (n2 : Int)) = false := by simp; omega
  go_wp2_with fail
  refine (newq_any w).mono ?_
  rintro e w1 ⟨rfl, ⟨F1, h1⟩, hb1⟩
  have H1 := Lib.hid h1
  have hs1 := hb1.size
  obtain ⟨q, hq⟩ : ∃ q, w.heap.size + 1 = q := ⟨_, rfl⟩
  rw [hq] at H1 ⊢
  clear h1 hq
  go_wp2_with fail
  go_loopw [6] (fun a wr => ∃ i : Nat, i ≤ n ∧ a = .int .i64 i ∧ (∃ F, Hid (QB wr w.heap.size q F (Lk ks i) i i)) ∧ Below w.heap.size w wr) (fun a _ => n - (intOf a).toNat)
  case atStart => exact ⟨0, Nat.zero_le _, rfl, ⟨F1, H1⟩, hb1⟩
  case round =>
    obtain ⟨i, hi, rfl, ⟨F, HQ⟩, hbr⟩ := hrel
    clear H1 hb1 hs1
    have hsr := hbr.size
    by_cases hlt : i < n
    case pos =>
      have hltD : decide (i < n) = true := by simp [hlt]
      obtain ⟨b, off, rfl, _, hk⟩ := (HL.out.below hbr).int_at hlt
      go_wp2_with fail
      refine (pushq_any _ _ HQ.out (by omega) (by omega)).mono ?_
      rintro e w2 ⟨rfl, G, h2, s2⟩
      rw [Lk_succ] at h2
      have H2 := Lib.hid h2
      have hb2 := hbr.trans (s2.below hsr)
      clear h2 s2
      go_wp2_with fail
      go_roundw
      case rel => exact ⟨i + 1, by omega, by go_num, ⟨G, H2⟩, hb2⟩
      case measure => simp [intOf]; omega
    case neg =>
      have hltD : decide (i < n) = false := by simp [hlt]
      obtain rfl : i = n := by omega
      clear hlt hi
      obtain ⟨n, hni⟩ : ∃ n, n = i := ⟨_, rfl⟩
      subst hni
      go_wp2_with fail
      go_loopw [7] (fun a wr2 => ∃ k : Nat, k ≤ n2 ∧ a = .int .i64 k ∧ (∃ (F : Nat → Prop) (R : List Ent), Hid (QB wr2 w.heap.size q F R (n + k) (n + k)) ∧ R.length = if k = 0 then n else max n 1) ∧ Below w.heap.size w wr2) (fun a _ => n2 - (intOf a).toNat)
      case atStart => exact ⟨0, Nat.zero_le _, rfl, ⟨F, Lk ks n, HQ, by rw [Lk_length]; rfl⟩, hbr⟩
      case round =>
        clear HQ hbr hsr
        obtain ⟨k, hk, rfl, ⟨F, R, HQ, hR⟩, hbr⟩ := hrel
        have hsr := hbr.size
        by_cases hlt : k < n2
        case neg =>
          have hltD : decide (k < n2) = false := by simp [hlt]
          obtain rfl : k = n2 := by omega
          go_wp2_with fail
          refine (awake_any _).mono ?_
          rintro e w5 ⟨rfl, hb5⟩
          have HQ5 := Lib.hid (HQ.out.below hb5)
          have hb6 := hbr.trans (hb5.mono hsr)
          go_wp2_with fail
          refine (lenq_any HQ5.out).mono ?_
          rintro e w6 ⟨rfl, hb7⟩
          obtain ⟨r, hr⟩ : ∃ r, R.length = r := ⟨_, rfl⟩
          rw [hr] at hR ⊢
          have HRR := Lib.hid hR
          clear hr hR
          go_wp2_with fail
          all_goals
            go_ret
            exact ⟨ret_bool (by rw [beq_iff_eq]; have := HRR.out; split at this <;> omega), hb6.trans (hb7.mono hb6.size)⟩
        case pos =>
        have hltD : decide (k < n2) = true := by simp [hlt]
        have u1 : IntKind.i64.wrap ((n : Int) + k) = (n : Int) + k := IntWalk.i64_in _ (by omega)
        obtain ⟨bk, hbk⟩ : ∃ bk, bk = ls[k]?.getD 0 := ⟨_, rfl⟩
        have HBK := Lib.hid hbk
        clear hbk
        by_cases hR0 : R = []
        case pos =>
          subst hR0
          have hk0 : k = 0 ∧ n = 0 := by simp at hR; split at hR <;> omega
          have dn : decide (0 < n) = false := by simp; omega
          have dk : decide (0 < k) = false := by simp; omega
          have HK0 := Lib.hid hk0
          clear hR hk0
          go_wp2_with fail
          refine (popq_none HQ.out).mono ?_
          rintro e w2 ⟨rfl, hb2⟩
          have HQ2 := Lib.hid ((HQ.out.below hb2).alloc (.cells #[.int .i64 0, .int .i64 0] 27))
          have X2 := Lib.hid ((HQ.out.below hb2).new 27 #[.int .i64 0, .int .i64 0])
          have hc2' := hbr.trans (hb2.mono hsr)
          have hc2 := hc2'.alloc hc2'.size (.cells #[.int .i64 0, .int .i64 0] 27)
          have hs2 := hc2.size
          clear hc2'
          have hbk := HBK.out
          obtain ⟨b2, off2, rfl, hb2B, hk2⟩ := (HLB.out.below hc2).int_at hlt
          rw [← hbk] at hk2
          clear hbk
          go_wp2_with fail
          refine (pushq_any _ _ HQ2.out (by omega) (by omega)).mono ?_
          rintro e w3 ⟨rfl, G3, h3, s3⟩
          have HQ3 := Lib.hid h3
          have X3 := Lib.hid (X2.out.step s3)
          have hc3 := hc2.trans (s3.below hs2)
          have hs3 := hc3.size
          clear h3 s3 hk2
          obtain ⟨y, L2, hymin, _⟩ := popq_first HQ3.out (by simp)
          obtain ⟨yk, yi, yh, yt⟩ := y
          have hyk : yk ≤ bk := by
            by_cases e : (n + k : Nat) = yt
            · have := uniq_map HQ3.out.ok.td hymin.1 (show (⟨bk, (n : Int) + k, n + k, n + k⟩ : Ent) ∈ _ by simp) e.symm
              injection this with e1
              omega
            · have := hymin.2 ⟨bk, (n : Int) + k, n + k, n + k⟩ (by simp) e
              rw [bf_iff] at this
              have h2 : yk < bk ∨ (yk = bk ∧ yt < n + k) := this
              omega
          have HYM := Lib.hid hymin
          clear hymin
          go_wp2_with fail
          refine (peekq_any HQ3.out HYM.out).mono ?_
          rintro e w4 ⟨rfl, hb4⟩
          have HQ4 := Lib.hid ((HQ3.out.below hb4).alloc (.cells #[.int .i64 yk, .int .i64 yi] 27))
          have Y4 := (HQ3.out.below hb4).new 27 #[.int .i64 yk, .int .i64 yi]
          have X4 := (X3.out.below hb4).below ((Below.refl _ _).alloc (Nat.le_refl _) (.cells #[.int .i64 yk, .int .i64 yi] 27))
          have hc4 := (hc3.trans (hb4.mono hs3)).alloc (Nat.le_trans hs3 hb4.size) (.cells #[.int .i64 yk, .int .i64 yi] 27)
          obtain ⟨b5, off5, e5, hb5B, hk5⟩ := (HLB.out.below hc4).int_at hlt
          rw [← HBK.out] at hk5
          injection e5 with e5
          injection e5 with e51 e52 _
          subst e51 e52
          have x0 := X4.1.cell 0
          simp at x0
          have y0 : (w4.alloc (.cells #[.int .i64 yk, .int .i64 yi] 27)).cell? ⟨w4.heap.size, 0, none⟩ = some (.int .i64 yk) := Y4.1.cell 0
          have hs4 := hc4.size
          have dy : decide (bk < yk) = false := by simp; omega
          clear X4 Y4
          go_upto_region 16 with fail
          obtain ⟨w5, hw5⟩ : ∃ w5, w4.alloc (.cells #[.int .i64 yk, .int .i64 yi] 27) = w5 := ⟨_, rfl⟩
          rw [hw5] at HQ4 hc4 x0 y0 hk5 hs4 ⊢
          clear hw5
          go_cut [105] (fun a wx => a = .bool false ∧ ∃ nd, wx = w5.drewN nd)
          case first =>
            clear hyk
            go_quiet (fail); go_wp2_with fail; go_meet; exact ⟨rfl, nq, rfl⟩
          case rest =>
            obtain ⟨rfl, nd, rfl⟩ := hcut
            have HQ6 := Lib.hid (HQ4.out.drewN nd)
            go_wp2_with fail
            go_roundw
            case rel => exact ⟨k + 1, by omega, by go_num, ⟨G3, _, HQ6, by have := HK0.out; simp; omega⟩, below_drewN hc4 _⟩
            case measure => simp [intOf]; omega
        case neg =>
          have hpos : 0 < n ∨ 0 < k := by
            rcases Nat.eq_zero_or_pos k with h | h
            · left; rw [if_pos h] at hR; have := List.length_pos_iff.2 hR0; omega
            · exact .inr h
          obtain ⟨m, R', hmin, hperm⟩ := popq_first HQ.out hR0
          have hlen : (R' ++ [(⟨bk, (n : Int) + k, n + k, n + k⟩ : Ent)]).length = max n 1 := by
            have := hperm.length_eq
            simp at this ⊢
            split at hR <;> omega
          have hmy : ∀ e ∈ R', m.key ≤ e.key := fun e he => by
            by_cases h : e.t = m.t
            · have := uniq_map HQ.out.ok.td (hperm.mem_iff.2 (by simp [he])) hmin.1 h
              rw [this]; exact Int.le_refl _
            · have := hmin.2 e (hperm.mem_iff.2 (by simp [he])) h
              rw [bf_iff] at this
              omega
          obtain ⟨xk, xi, xh, xt⟩ := m
          simp only at hmy
          have HMI := Lib.hid hmin
          have HPE := Lib.hid hperm
          have HMY := Lib.hid hmy
          have HLEN := Lib.hid hlen
          clear hmin hperm hmy hlen hR
          go_wp2_with fail
          refine (popq_any HQ.out HMI.out HPE.out).mono ?_
          rintro e w2 ⟨rfl, G, h2, s2⟩
          have HQ2 := Lib.hid (h2.alloc (.cells #[.int .i64 xk, .int .i64 xi] 27))
          have X2 := Lib.hid (h2.new 27 #[.int .i64 xk, .int .i64 xi])
          have hc2' := hbr.trans (s2.below hsr)
          have hc2 := hc2'.alloc hc2'.size (.cells #[.int .i64 xk, .int .i64 xi] 27)
          have hs2 := hc2.size
          clear h2 s2 hc2'
          have hbk := HBK.out
          obtain ⟨b2, off2, rfl, hb2B, hk2⟩ := (HLB.out.below hc2).int_at hlt
          rw [← hbk] at hk2
          clear hbk
          go_wp2_with fail
          refine (pushq_any _ _ HQ2.out (by omega) (by omega)).mono ?_
          rintro e w3 ⟨rfl, G3, h3, s3⟩
          have HQ3 := Lib.hid h3
          have X3 := Lib.hid (X2.out.step s3)
          have hc3 := hc2.trans (s3.below hs2)
          have hs3 := hc3.size
          clear h3 s3 hk2
          obtain ⟨y, L2, hymin, _⟩ := popq_first HQ3.out (by simp)
          obtain ⟨yk, yi, yh, yt⟩ := y
          have hyk : yk ≤ bk := by
            by_cases e : (n + k : Nat) = yt
            · have := uniq_map HQ3.out.ok.td hymin.1 (show (⟨bk, (n : Int) + k, n + k, n + k⟩ : Ent) ∈ _ by simp) e.symm
              injection this with e1
              omega
            · have := hymin.2 ⟨bk, (n : Int) + k, n + k, n + k⟩ (by simp) e
              rw [bf_iff] at this
              have h2 : yk < bk ∨ (yk = bk ∧ yt < n + k) := this
              omega
          have hxy : yk < xk → yk = bk := fun h => by
            rcases List.mem_append.1 hymin.1 with h1 | h1
            · have := HMY.out _ h1
              simp only at this
              omega
            · simp at h1
              exact h1.1
          have HYM := Lib.hid hymin
          clear hymin
          go_wp2_with fail
          refine (peekq_any HQ3.out HYM.out).mono ?_
          rintro e w4 ⟨rfl, hb4⟩
          have HQ4 := Lib.hid ((HQ3.out.below hb4).alloc (.cells #[.int .i64 yk, .int .i64 yi] 27))
          have Y4 := (HQ3.out.below hb4).new 27 #[.int .i64 yk, .int .i64 yi]
          have X4 := (X3.out.below hb4).below ((Below.refl _ _).alloc (Nat.le_refl _) (.cells #[.int .i64 yk, .int .i64 yi] 27))
          have hc4 := (hc3.trans (hb4.mono hs3)).alloc (Nat.le_trans hs3 hb4.size) (.cells #[.int .i64 yk, .int .i64 yi] 27)
          obtain ⟨b5, off5, e5, hb5B, hk5⟩ := (HLB.out.below hc4).int_at hlt
          rw [← HBK.out] at hk5
          injection e5 with e5
          injection e5 with e51 e52 _
          subst e51 e52
          have x0 := X4.1.cell 0
          simp at x0
          have y0 : (w4.alloc (.cells #[.int .i64 yk, .int .i64 yi] 27)).cell? ⟨w4.heap.size, 0, none⟩ = some (.int .i64 yk) := Y4.1.cell 0
          have hs4 := hc4.size
          have dy : decide (bk < yk) = false := by simp; omega
          clear X4 Y4
          go_upto_region 16 with fail
          obtain ⟨w5, hw5⟩ : ∃ w5, w4.alloc (.cells #[.int .i64 yk, .int .i64 yi] 27) = w5 := ⟨_, rfl⟩
          rw [hw5] at HQ4 hc4 x0 y0 hk5 hs4 ⊢
          clear hw5
          go_cut [105] (fun a wx => a = .bool false ∧ ∃ nd, wx = w5.drewN nd)
          case first =>
            by_cases hn0 : 0 < n
            · have dn : decide (0 < n) = true := by simp [hn0]
              by_cases hlx : yk < xk
              · have dx : decide (yk < xk) = true := by simp [hlx]
                have dk : (yk != bk) = false := by rw [hxy hlx]; simp
                clear hxy hlx hyk hpos
                go_quiet (fail); go_wp2_with fail; go_meet; exact ⟨rfl, nq, rfl⟩
              · have dx : decide (yk < xk) = false := by simp [hlx]
                clear hxy hlx hyk hpos
                go_quiet (fail); go_wp2_with fail; go_meet; exact ⟨rfl, nq, rfl⟩
            · have dn : decide (0 < n) = false := by simp [hn0]
              have dk0 : decide (0 < k) = true := by simp; omega
              by_cases hlx : yk < xk
              · have dx : decide (yk < xk) = true := by simp [hlx]
                have dk : (yk != bk) = false := by rw [hxy hlx]; simp
                clear hxy hlx hyk hpos
                go_quiet (fail); go_wp2_with fail; go_meet; exact ⟨rfl, nq, rfl⟩
              · have dx : decide (yk < xk) = false := by simp [hlx]
                clear hxy hlx hyk hpos
                go_quiet (fail); go_wp2_with fail; go_meet; exact ⟨rfl, nq, rfl⟩
          case rest =>
            obtain ⟨rfl, nd, rfl⟩ := hcut
            have HQ6 := Lib.hid (HQ4.out.drewN nd)
            go_wp2_with fail
            go_roundw
            case rel => exact ⟨k + 1, by omega, by go_num, ⟨G3, _, HQ6, by rw [HLEN.out]; simp⟩, below_drewN hc4 _⟩
            case measure => simp [intOf]; omega
end Go.Proofs.Ytnechjedhpcffaa
