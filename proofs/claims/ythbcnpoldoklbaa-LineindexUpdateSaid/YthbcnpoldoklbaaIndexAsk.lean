/- Lines, span, Line: what they return. -/
import Derived.Test.YthbcnpoldoklbaaIndexNew
namespace Go.Proofs.Ythbcnpoldoklbaa
open Go.RowKit

def spanF (s : ByteArray) (k : Nat) : Nat := if k = 0 then 0 else (starts s)[k - 1]?.getD 0
def spanT (s : ByteArray) (k : Nat) : Nat := if k < (starts s).length then (starts s)[k]?.getD 0 - 1 else s.size
theorem starts_pos {s : ByteArray} {k x : Nat} (h : (starts s)[k]? = some x) : 0 < x ∧ x ≤ s.size := by
  have := startsTo_mem (List.mem_of_getElem? h)
  omega

set_option maxHeartbeats 400000 in
theorem lines_any (s : ByteArray) (A : Option Addr) (n c : Nat) (w : World) (hn : n ≤ 1048577) : Calls Try.prog 19 #[.agg #[.string s, .slice A n c]] w
    fun e w' => e = .returned (.int .i64 ((n : Int) + 1)) ∧ Below w.heap.size w w' := by
  have v : IntKind.i64.wrap ((n : Int) + 1) = (n : Int) + 1 := IntWalk.i64_in _ (by omega)
  go_enter Try.func19, Try.ntmps19
  go_wp2_with fail
  go_ret
  exact ⟨rfl, (Below.refl _ _).alloc (Nat.le_refl _) _⟩

set_option maxHeartbeats 1000000 in
theorem span_any (s : ByteArray) (A : Option Addr) (n c B k : Nat) (w : World) (hl : Reads w B 1 A n (nats (starts s))) (hB : B ≤ w.heap.size) (hn : n ≤ 1048577) (hs : s.size ≤ 1048577) (hk : k ≤ n) :
    Calls Try.prog 25 #[.agg #[.string s, .slice A n c], .int .i64 k] w
      fun e w' => e = .returned (.tuple #[.int .i64 (spanF s k), .int .i64 (spanT s k)]) ∧ Below w.heap.size w w' := by
  have hln := hl.nats_len
  have K0 := Blk.new' w 25 #[.string s, .slice A n c] rfl
  have a0 := K0.cell 0
  have a1 := K0.cell 1
  have hb0 : Below w.heap.size w (w.alloc (.cells #[.string s, .slice A n c] 25)) := (Below.refl _ _).alloc (Nat.le_refl _) _
  have hl0 := hl.alloc hB (.cells #[.string s, .slice A n c] 25)
  have HL := Lib.hid hl0
  clear hl hl0
  obtain ⟨W, hW⟩ : ∃ W, W = w.alloc (.cells #[.string s, .slice A n c] 25) := ⟨_, rfl⟩
  have WAIT := Lib.hid hW
  rw [← hW] at a0 a1 hb0 HL
  simp at a0 a1
  clear hW K0
  have hF : k = 0 ∨ ∃ x, 0 < k ∧ (starts s)[k - 1]? = some x := by
    by_cases h : k = 0
    · exact .inl h
    · have hx := List.getElem?_eq_getElem (l := starts s) (i := k - 1) (by omega)
      exact .inr ⟨_, by omega, hx⟩
  have hT : n = k ∨ ∃ x, k < n ∧ (starts s)[k]? = some x := by
    by_cases h : n = k
    · exact .inl h
    · have hx := List.getElem?_eq_getElem (l := starts s) (i := k) (by omega)
      exact .inr ⟨_, by omega, hx⟩
  rcases hF with h0 | ⟨x, h0, hx⟩
  · subst h0
    rcases hT with h1 | ⟨y, h1, hy⟩
    · have R1 := Lib.hid (show spanF s 0 = 0 from rfl)
      have R2 := Lib.hid (show spanT s 0 = s.size by unfold spanT; rw [if_neg (by omega)])
      subst h1
      go_enter Try.func25, Try.ntmps25
      go_wp2_with fail
      rw [← WAIT.out]
      go_quiet (fail)
      go_wp2_with fail
      go_ret2
      exact ⟨by rw [R1.out, R2.out]; rfl, below_drewN hb0 _⟩
    · obtain ⟨p1, p2⟩ := starts_pos hy
      have R1 := Lib.hid (show spanF s 0 = 0 from rfl)
      have R2 := Lib.hid (show ((spanT s 0 : Nat) : Int) = (y : Int) - 1 by unfold spanT; rw [if_pos (by omega), hy]; simp only [Option.getD_some]; omega)
      obtain ⟨b, off, rfl, hb, hcy⟩ := HL.out.nat_at hy
      rw [Nat.add_zero] at hcy
      have v : IntKind.i64.wrap ((y : Int) - 1) = (y : Int) - 1 := IntWalk.i64_in _ (by omega)
      have q1 : (0 : Int) < (n : Int) := by omega
      clear hy hln
      go_enter Try.func25, Try.ntmps25
      go_wp2_with fail
      rw [← WAIT.out]
      go_quiet (fail)
      go_wp2_with fail
      go_ret2
      exact ⟨by rw [R1.out, R2.out]; rfl, below_drewN hb0 _⟩
  · obtain ⟨m, rfl⟩ : ∃ m, k = m + 1 := ⟨k - 1, by omega⟩
    rw [Nat.add_sub_cancel] at hx
    have R1 := Lib.hid (show spanF s (m + 1) = x by unfold spanF; rw [if_neg (by omega), Nat.add_sub_cancel, hx]; rfl)
    obtain ⟨b, off, rfl, hb, hcx⟩ := HL.out.nat_at hx
    have v0 : IntKind.i64.wrap (((m + 1 : Nat) : Int) - 1) = (m : Int) := by rw [IntWalk.i64_in _ (by omega)]; omega
    have q0 : (0 : Int) < ((m + 1 : Nat) : Int) := by omega
    have q2 : (m : Int) < (n : Int) := by omega
    rcases hT with h1 | ⟨y, h1, hy⟩
    · have R2 := Lib.hid (show spanT s (m + 1) = s.size by unfold spanT; rw [if_neg (by omega)])
      subst h1
      clear hx hln
      go_enter Try.func25, Try.ntmps25
      go_wp2_with fail
      rw [← WAIT.out]
      go_quiet (fail)
      go_wp2_with fail
      go_ret2
      exact ⟨by rw [R1.out, R2.out]; rfl, below_drewN hb0 _⟩
    · obtain ⟨p1, p2⟩ := starts_pos hy
      have R2 := Lib.hid (show ((spanT s (m + 1) : Nat) : Int) = (y : Int) - 1 by unfold spanT; rw [if_pos (by omega), hy]; simp only [Option.getD_some]; omega)
      obtain ⟨b', off', e1, hb', hcy⟩ := HL.out.nat_at hy
      injection e1 with e1
      injection e1 with e1 e2
      subst e1; subst e2
      have v : IntKind.i64.wrap ((y : Int) - 1) = (y : Int) - 1 := IntWalk.i64_in _ (by omega)
      have q1 : ((m + 1 : Nat) : Int) < (n : Int) := by omega
      clear hx hy hln
      go_enter Try.func25, Try.ntmps25
      go_wp2_with fail
      rw [← WAIT.out]
      go_quiet (fail)
      go_wp2_with fail
      go_ret2
      exact ⟨by rw [R1.out, R2.out]; rfl, below_drewN hb0 _⟩
end Go.Proofs.Ythbcnpoldoklbaa
