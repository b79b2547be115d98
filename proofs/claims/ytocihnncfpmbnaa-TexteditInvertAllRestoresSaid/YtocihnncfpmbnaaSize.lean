/- The reference's Size on lists of edits. -/
import Derived.Test.YtocihnncfpmbnaaEds
namespace Go.Proofs.Ytocihnncfpmbnaa
open Go.RowKit

def Ed.eqb (a b : Ed) : Bool := a.pos == b.pos && (a.del == b.del && a.ins.toList == b.ins.toList)
theorem Ed.eqb_iff {a b : Ed} : a.eqb b = true ↔ a = b := by
  obtain ⟨k, p, t⟩ := a
  obtain ⟨k', p', t'⟩ := b
  simp only [Ed.eqb, Bool.and_eq_true, beq_iff_eq, Ed.mk.injEq]
  have ht : t.toList = t'.toList ↔ t = t' := by
    constructor
    · intro h
      exact ByteArray.ext (by rw [ByteArray.toList_eq, ByteArray.toList_eq] at h; exact Array.toList_inj.1 h)
    · intro h; rw [h]
  rw [ht]
theorem Ed.underStruct : Try.prog.underlying 23 = some (.struct (Try.prog.fieldsOf 23)) := by kernel_rfl
theorem run_neq_ed (w : World) (a b c d : Int) (s t : ByteArray) :
    (binOp .neq 23 (.agg #[.int .i64 a, .int .i64 b, .string s]) (.agg #[.int .i64 c, .int .i64 d, .string t])).run Try.prog w = .ok (.bool (!Ed.eqb ⟨a, b, s⟩ ⟨c, d, t⟩)) w := by
  unfold Ed.eqb
  simp only [binOp]
  by_cases h1 : a = c
  · by_cases h2 : b = d
    · by_cases h3 : s.toList = t.toList <;> simp [go_sem, Op.equal, Op.maxDepth, h1, h2, h3]
    · simp [go_sem, Op.equal, Op.maxDepth, h1, h2]
  · simp [go_sem, Op.equal, Op.maxDepth, h1]
theorem run_eql_ed (w : World) (a b c d : Int) (s t : ByteArray) :
    (binOp .eql 23 (.agg #[.int .i64 a, .int .i64 b, .string s]) (.agg #[.int .i64 c, .int .i64 d, .string t])).run Try.prog w = .ok (.bool (Ed.eqb ⟨a, b, s⟩ ⟨c, d, t⟩)) w := by
  unfold Ed.eqb
  simp only [binOp]
  by_cases h1 : a = c
  · by_cases h2 : b = d
    · by_cases h3 : s.toList = t.toList <;> simp [go_sem, Op.equal, Op.maxDepth, h1, h2, h3]
    · simp [go_sem, Op.equal, Op.maxDepth, h1, h2]
  · simp [go_sem, Op.equal, Op.maxDepth, h1]

theorem sumIns_take (l : List Ed) (k : Nat) : sumIns (l.take k) ≤ sumIns l := by
  conv => rhs; rw [← List.take_append_drop k l]
  simp only [sumIns, List.map_append, List.sum_append]
  omega
theorem sumIns_snoc (l : List Ed) (k : Nat) (t : Ed) (h : l[k]? = some t) : sumIns (l.take (k + 1)) = sumIns (l.take k) + t.ins.size := by
  rw [List.take_add_one, h]
  simp [sumIns]
set_option maxHeartbeats 1000000 in
theorem size_any (A : Option Addr) (n c B : Nat) (l : List Ed) (w : World) (hl : Reads w B 3 A n (eds l)) (hn : n ≤ maxLen) (hs : sumIns l ≤ 9223372036854775807) :
    Calls Try.prog 26 #[.slice A n c] w fun e w' => e = .returned (.int .i64 (sumIns l)) ∧ w = w' := by
  have HL := Lib.hid hl
  have HLN := Lib.hid hl.len_eds
  have HS := Lib.hid hs
  unfold maxLen at hn
  clear hl hs
  go_enter Try.func26, Try.ntmps26
  go_wp2_with fail
  go_loop [3, 4] (fun a b => ∃ k m : Nat, k ≤ n ∧ b = .int .i64 k ∧ a = .int .i64 m ∧ Hid (m = sumIns (l.take k))) (fun _ b => n - (intOf b).toNat)
  case atStart => exact ⟨0, 0, Nat.zero_le _, rfl, rfl, by show 0 = _; simp [sumIns]⟩
  case round =>
    obtain ⟨k, m, hk, rfl, rfl, HM⟩ := hrel
    by_cases hlt : k < n
    · obtain ⟨b, off, t, rfl, hbl, ht, h0, h1, h2⟩ := HL.out.ed_at hlt
      have e1 := sumIns_snoc l k t ht
      have e2 := sumIns_take l (k + 1)
      rw [e1, ← HM.out] at e2
      have e3 : m + t.ins.size ≤ 9223372036854775807 := Nat.le_trans e2 HS.out
      have H1 := Lib.hid e1
      clear e1 e2 ht
      go_wp2_with fail
      go_round
      case rel => exact ⟨k + 1, m + t.ins.size, by omega, by go_num, by go_num, by show _ = _; rw [H1.out, HM.out]⟩
      case measure => simp [intOf]; omega
    · have e1 := HM.out
      rw [List.take_of_length_le (by have := HLN.out; omega)] at e1
      subst e1
      go_wp2_with fail
      go_ret
      exact ⟨rfl, rfl⟩

theorem sumIns_bd (l : List Ed) (h : l.length ≤ 12) (ht : ∀ t ∈ l, t.ins.size ≤ reachBytes) : sumIns l ≤ 9223372036854775807 := by
  have : ∀ m : List Ed, (∀ t ∈ m, t.ins.size ≤ reachBytes) → sumIns m ≤ m.length * reachBytes := by
    intro m
    induction m with
    | nil => intro _; simp [sumIns]
    | cons t m ih =>
      intro hm
      have h1 := ih (fun t ht => hm t (List.mem_cons_of_mem _ ht))
      have h2 := hm t List.mem_cons_self
      simp only [sumIns, List.map_cons, List.sum_cons, List.length_cons] at *
      rw [Nat.add_mul]
      omega
  have h1 := this l ht
  have h2 : l.length * reachBytes ≤ 12 * reachBytes := Nat.mul_le_mul_right _ h
  have h3 : 12 * reachBytes ≤ 9223372036854775807 := by decide
  omega
end Go.Proofs.Ytocihnncfpmbnaa
