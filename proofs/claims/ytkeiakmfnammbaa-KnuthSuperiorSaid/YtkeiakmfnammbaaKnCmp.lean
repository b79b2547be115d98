/- Lists of values and of ints compared; Ordinary. -/
import Derived.Test.YtkeiakmfnammbaaKnRSolve
namespace Go.Proofs.Ytkeiakmfnammbaa
open Go.RowKit

set_option maxHeartbeats 1000000 in
theorem samev_any (w : World) (A A' : Option Addr) (n c c' B B' : Nat) (l : List Vl) (h : Reads w B 2 A n (vls l)) (h' : Reads w B' 2 A' n (vls l)) (hn : n ≤ 1000000) :
    Calls Try.prog 22 #[.slice A n c, .slice A' n c'] w fun e w' => e = .returned (.bool true) ∧ Below w.heap.size w w' := by
  have H := Lib.hid h
  have H' := Lib.hid h'
  clear h h'
  have hE := run_neq_vl
  have hq : ((n : Int) != (n : Int)) = false := by simp
  have hb0 : Below w.heap.size w w := Below.refl _ _
  go_enter Try.func22, Try.ntmps22
  go_wp2_with fail
  go_loopw [5] (fun x wr => ∃ k : Nat, k ≤ n ∧ x = .int .i64 k ∧ Hid (∃ j, wr = w.drewN j)) (fun x _ => n - (intOf x).toNat)
  case atStart => exact ⟨0, Nat.zero_le _, rfl, drew0 w⟩
  case round =>
    obtain ⟨k, hk, rfl, HW⟩ := hrel
    obtain ⟨j, rfl⟩ := HW.out
    by_cases hlt : k < n
    case pos =>
      have hltD : decide (k < n) = true := by simp [hlt]
      obtain ⟨b, off, v, hA, hb, hv, p0, p1⟩ := H.out.vl_at hlt
      obtain ⟨b', off', v', hA', hb', hv', p0', p1'⟩ := H'.out.vl_at hlt
      obtain rfl : v = v' := by rw [hv] at hv'; injection hv'
      subst hA hA'
      have hd : (!(decide (v.c = v.c) && decide (v.s = v.s))) = false := by simp
      clear hv hv'
      go_wp2_with fail
      go_quiet (fail)
      go_wp2_with fail
      go_roundw
      case rel => exact ⟨k + 1, by omega, by go_num, drew1 w _⟩
      case measure => simp [intOf]; omega
    case neg =>
      have hltD : decide (k < n) = false := by simp [hlt]
      go_wp2_with fail
      go_ret
      exact ⟨rfl, below_drewN (Below.refl _ _) _⟩

set_option maxHeartbeats 1000000 in
theorem samei_any (w : World) (A A' : Option Addr) (n c c' B B' : Nat) (l : List Int) (h : Reads w B 1 A n (ints l)) (h' : Reads w B' 1 A' n (ints l)) (hn : n ≤ 1000000) :
    Calls Try.prog 23 #[.slice A n c, .slice A' n c'] w fun e w' => e = .returned (.bool true) ∧ Below w.heap.size w w' := by
  have H := Lib.hid h
  have H' := Lib.hid h'
  clear h h'
  have hq : ((n : Int) != (n : Int)) = false := by simp
  go_enter Try.func23, Try.ntmps23
  go_wp2_with fail
  go_loopw [5] (fun x wr => ∃ k : Nat, k ≤ n ∧ x = .int .i64 k ∧ Hid (∃ j, wr = w.drewN j)) (fun x _ => n - (intOf x).toNat)
  case atStart => exact ⟨0, Nat.zero_le _, rfl, drew0 w⟩
  case round =>
    obtain ⟨k, hk, rfl, HW⟩ := hrel
    obtain ⟨j, rfl⟩ := HW.out
    by_cases hlt : k < n
    case pos =>
      have hltD : decide (k < n) = true := by simp [hlt]
      obtain ⟨b, off, hA, hb, p0⟩ := H.out.int_at hlt
      obtain ⟨b', off', hA', hb', p0'⟩ := H'.out.int_at hlt
      obtain ⟨x, hx⟩ : ∃ x, l[k]?.getD 0 = x := ⟨_, rfl⟩
      rw [hx] at p0 p0'
      subst hA hA'
      have hd : (x != x) = false := by simp
      clear hx
      go_wp2_with fail
      go_quiet (fail)
      go_wp2_with fail
      go_roundw
      case rel => exact ⟨k + 1, by omega, by go_num, drew1 w _⟩
      case measure => simp [intOf]; omega
    case neg =>
      have hltD : decide (k < n) = false := by simp [hlt]
      go_wp2_with fail
      go_ret
      exact ⟨rfl, below_drewN (Below.refl _ _) _⟩

theorem ordy_ways (v : Vl) : decide (v.c < 0) = true ∨ (decide (v.c < 0) = false ∧ decide (1099511627776 < v.c) = true) ∨ (decide (v.c < 0) = false ∧ decide (1099511627776 < v.c) = false ∧ decide (v.s < 0) = true) ∨
    (decide (v.c < 0) = false ∧ decide (1099511627776 < v.c) = false ∧ decide (v.s < 0) = false ∧ decide (1099511627776 < v.s) = true) ∨ (decide (v.c < 0) = false ∧ decide (1099511627776 < v.c) = false ∧ decide (v.s < 0) = false ∧ decide (1099511627776 < v.s) = false ∧ Ordy v) := by
  simp only [decide_eq_true_eq, decide_eq_false_iff_not]
  unfold Ordy
  omega
set_option maxHeartbeats 1000000 in
theorem ordinary_any (w : World) (A : Option Addr) (n c B : Nat) (l : List Vl) (h : Reads w B 2 A n (vls l)) (hn : n ≤ 1000000) :
    Calls Try.prog 16 #[.slice A n c] w (RetIf (∀ v ∈ l, Ordy v) w) := by
  have HLN := Lib.hid h.len_vls
  have H := Lib.hid h
  clear h
  go_enter Try.func16, Try.ntmps16
  go_wp2_with fail
  go_loop [3] (fun x => ∃ k : Nat, k ≤ n ∧ x = .int .i64 k ∧ Hid (∀ v ∈ l.take k, Ordy v)) (fun x => n - (intOf x).toNat)
  case atStart => exact ⟨0, Nat.zero_le _, rfl, fun v hv => by simp at hv⟩
  case round =>
    obtain ⟨k, hk, rfl, HO⟩ := hrel
    by_cases hlt : k < n
    case pos =>
      have hltD : decide (k < n) = true := by simp [hlt]
      obtain ⟨b, off, v, hA, hb, hv, p0, p1⟩ := H.out.vl_at hlt
      subst hA
      have HV := Lib.hid hv
      clear hv
      rcases ordy_ways v with h1 | ⟨h1, h2⟩ | ⟨h1, h2, h3⟩ | ⟨h1, h2, h3, h4⟩ | ⟨h1, h2, h3, h4, ho⟩
      case inr.inr.inr.inr =>
        have HOV := Lib.hid ho
        clear ho
        go_wp2_with fail
        go_round
        case rel => exact ⟨k + 1, by omega, by go_num, fun u hu => by
          rw [List.take_add_one, HV.out] at hu
          rcases List.mem_append.1 hu with h | h
          · exact HO.out u h
          · simp at h; rw [h]; exact HOV.out⟩
        case measure => simp [intOf]; omega
      all_goals
        go_wp2_with fail
        go_ret
        exact ⟨false, rfl, fun h => by simp at h, Below.refl _ _⟩
    case neg =>
      have hltD : decide (k < n) = false := by simp [hlt]
      obtain rfl : n = k := by omega
      go_wp2_with fail
      go_ret
      exact ⟨true, rfl, fun _ v hv => HO.out v (by rw [← HLN.out, List.take_length]; exact hv), Below.refl _ _⟩
end Go.Proofs.Ytkeiakmfnammbaa
