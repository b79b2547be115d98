/- Few says whether a text and steps are small. -/
import Derived.Test.YtepohmklbfkdfaaURun
namespace Go.Proofs.Ytepohmklbfkdfaa
open Go.RowKit

def sumSt (l : List St) : Nat := (l.map fun x => x.e.ins.size).sum
theorem sumSt_snoc (l : List St) (k : Nat) (t : St) (h : l[k]? = some t) : sumSt (l.take (k + 1)) = sumSt (l.take k) + t.e.ins.size := by
  rw [List.take_add_one, h]
  simp [sumSt]
theorem sumSt_bd : ∀ (l : List St) (B : Nat), (∀ t ∈ l, t.e.ins.size ≤ B) → sumSt l ≤ l.length * B
  | [], _, _ => by simp [sumSt]
  | x :: l, B, h => by
    have h1 := sumSt_bd l B (fun t ht => h t (List.mem_cons_of_mem _ ht))
    have h2 := h x List.mem_cons_self
    simp only [sumSt, List.map_cons, List.sum_cons, List.length_cons, Nat.succ_mul] at *
    omega
theorem sumSt_take (l : List St) (k : Nat) : sumSt (l.take k) ≤ sumSt l := by
  conv => rhs; rw [← List.take_append_drop k l]
  simp only [sumSt, List.map_append, List.sum_append]
  omega
theorem sumSt_mem : ∀ {l : List St} {t : St}, t ∈ l → t.e.ins.size ≤ sumSt l
  | x :: l, t, h => by
    simp only [sumSt, List.map_cons, List.sum_cons]
    rcases List.mem_cons.1 h with h | h
    · subst h; omega
    · have := sumSt_mem h
      simp only [sumSt] at this
      omega

set_option maxHeartbeats 1000000 in
theorem few_any (s : ByteArray) (A : Option Addr) (n c B : Nat) (l : List St) (w : World) (hl : Reads w B 4 A n (sts l)) (hn : n ≤ maxLen) (hs : s.size ≤ reachBytes) (ht : ∀ t ∈ l, t.e.ins.size ≤ reachBytes) :
    Calls Try.prog 10 #[.string s, .slice A n c] w (RetIf (n ≤ 30 ∧ s.size + sumSt l ≤ 20000) w) := by
  have HL := Lib.hid hl
  have hln := hl.len_sts
  have HLN := Lib.hid hln
  unfold maxLen at hn
  have hrb : reachBytes ≤ 140737488355328 := by decide
  clear hl
  by_cases h1 : n ≤ 30
  case neg =>
    have t1 : decide ((n : Int) ≤ 30) = false := by simp; omega
    have t1' : decide (n ≤ 30) = false := by simp; omega
    clear hln ht hs hrb
    go_enter Try.func10, Try.ntmps10
    go_wp2_with fail
    go_loop [5, 6] (fun a b => ∃ (k : Nat) (z : Int), k ≤ n ∧ b = .int .i64 k ∧ a = .int .i64 z) (fun _ b => n - (intOf b).toNat)
    case atStart => exact ⟨0, _, Nat.zero_le _, rfl, rfl⟩
    case round =>
      obtain ⟨k, z, hk, rfl, rfl⟩ := hrel
      by_cases hlt : k < n
      · obtain ⟨b, off, t, rfl, hbl, ht, h0, h1, h2, h3⟩ := HL.out.st_at hlt
        clear ht
        go_wp2_with fail
        go_round
        case rel => exact ⟨k + 1, _, by omega, by go_num, rfl⟩
        case measure => simp [intOf]; omega
      · go_wp2_with fail
        go_ret
        exact ⟨false, rfl, by simp, Below.refl _ _⟩
  case pos =>
    have t1 : decide ((n : Int) ≤ 30) = true := by simp; omega
    have t1' : decide (n ≤ 30) = true := by simp; omega
    have hsum := sumSt_bd l reachBytes ht
    rw [hln] at hsum
    have hr : reachBytes ≤ 140737488355328 := by decide
    have hsum2 : sumSt l ≤ 30 * 140737488355328 := Nat.le_trans hsum (Nat.mul_le_mul h1 hr)
    have hs2 : s.size ≤ 140737488355328 := Nat.le_trans hs hr
    clear hln ht hsum hr hs hrb
    have HS := Lib.hid hsum2
    clear hsum2
    go_enter Try.func10, Try.ntmps10
    go_wp2_with fail
    go_loop [5, 6] (fun a b => ∃ k m : Nat, k ≤ n ∧ b = .int .i64 k ∧ a = .int .i64 m ∧ Hid (m = s.size + sumSt (l.take k))) (fun _ b => n - (intOf b).toNat)
    case atStart => exact ⟨0, s.size, Nat.zero_le _, rfl, rfl, by show _ = _; simp [sumSt]⟩
    case round =>
      obtain ⟨k, m, hk, rfl, rfl, HM⟩ := hrel
      by_cases hlt : k < n
      · obtain ⟨b, off, t, rfl, hbl, ht, h0, h1, h2, h3⟩ := HL.out.st_at hlt
        have e1 := sumSt_snoc l k t ht
        have e2 := sumSt_take l (k + 1)
        have e3 := HM.out
        have e4 := HS.out
        have hm : m + t.e.ins.size ≤ 9223372036854775807 := by omega
        have E1 := Lib.hid e1
        clear e1 e2 e3 e4 ht
        go_wp2_with fail
        go_round
        case rel => exact ⟨k + 1, m + t.e.ins.size, by omega, by go_num, by go_num, by have := HM.out; have := E1.out; show _ = _; omega⟩
        case measure => simp [intOf]; omega
      · have e3 := HM.out
        rw [List.take_of_length_le (by have := HLN.out; omega)] at e3
        have E3 := Lib.hid e3
        clear e3
        by_cases hm : m ≤ 20000
        · have d2 : decide ((m : Int) ≤ 20000) = true := by simp; omega
          have d3 : decide (m ≤ 20000) = true := by simp; omega
          go_wp2_with fail
          go_ret
          exact ⟨true, rfl, fun _ => by first | exact ⟨h1, by have := E3.out; omega⟩ | (have := E3.out; omega), Below.refl _ _⟩
        · have d2 : decide ((m : Int) ≤ 20000) = false := by simp; omega
          have d3 : decide (m ≤ 20000) = false := by simp; omega
          go_wp2_with fail
          go_ret
          exact ⟨false, rfl, by simp, Below.refl _ _⟩
end Go.Proofs.Ytepohmklbfkdfaa
