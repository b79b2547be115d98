/- Equal charts are found to be the same. -/
import Derived.Test.YthakcefgbggkcaaDoorCMi
import Derived.BigQuiet
namespace Go.Proofs.YthakcefgbggkcaaDoor
open Go.RowKit

theorem rneq_same (w : World) (a : Cl) :
    (binOp .neq 47 (.agg #[.int .i64 a.v.c, .int .i64 a.v.s, .int .i64 a.r, .int .i64 a.a]) (.agg #[.int .i64 a.v.c, .int .i64 a.v.s, .int .i64 a.r, .int .i64 a.a])).run Tryd.prog w = .ok (.bool false) w := by
  simp only [binOp]
  simp [go_sem, Op.equal, Op.maxDepth]
set_option maxRecDepth 100000 in
set_option maxHeartbeats 4000000 in
theorem samecells_any (w : World) (A A' : Option Addr) (n c c' B : Nat) (cs : List Cl) (h : Reads w B 4 A n (cls cs)) (h' : Reads w B 4 A' n (cls cs)) (hn : n ≤ 1000000000) :
    Calls Tryd.prog 21 #[.slice A n c, .slice A' n c'] w fun e w' => e = .returned (.bool true) ∧ Below w.heap.size w w' := by
  have H := Lib.hid h
  have H' := Lib.hid h'
  clear h h'
  go_enter Tryd.func21, Tryd.ntmps21
  go_wp2_with fail
  go_loopw [5] (fun x wr => ∃ i : Nat, i ≤ n ∧ x = .int .i64 i ∧ Hid (∃ k, wr = w.drewN k)) (fun x _ => n - (intOf x).toNat)
  case atStart => exact ⟨0, Nat.zero_le _, rfl, ⟨0, rfl⟩⟩
  case round =>
    obtain ⟨i, hi, rfl, HD⟩ := hrel
    have HB : Hid (Below w.heap.size w wr) := by obtain ⟨k, hk⟩ := HD.out; rw [hk]; exact below_drewN (Below.refl _ _) _
    by_cases hlt : i < n
    case pos =>
      have hltD : decide (i < n) = true := by simp [hlt]
      obtain ⟨k, hk⟩ := HD.out
      have R := H.out.drewN k
      have R' := H'.out.drewN k
      rw [← hk] at R R'
      have HKK := Lib.hid hk
      obtain ⟨b, off, x, hA, _, hx, p0, p1, p2, p3⟩ := R.cl_at hlt
      obtain ⟨b', off', x', hA', _, hx', q0, q1, q2, q3⟩ := R'.cl_at hlt
      rw [hx] at hx'
      injection hx' with hx'
      subst hx'
      subst hA hA'
      have hq := fun w9 : World => rneq_same w9 x
      have ui : IntKind.i64.wrap ((i : Int) + 1) = (i : Int) + 1 := IntWalk.i64_in _ (by omega)
      have hltI : (i : Int) < (n : Int) := by omega
      have h0D : decide ((i : Int) < 0) = false := by simp
      have h0L : decide (0 ≤ (i : Int)) = true := by simp
      clear R R' hk hx
      go_upto_region 6 with fail
      go_quiet (fail)
      go_wp2_with fail
      go_roundw
      case rel => exact ⟨i + 1, by omega, by go_num, by obtain ⟨k, hk⟩ := HD.out; rw [hk]; exact drew2 _ _ _⟩
      case measure => simp [intOf]; omega
    case neg =>
      have hltD : decide (i < n) = false := by simp [hlt]
      go_wp2_with fail
      go_ret
      exact ⟨rfl, HB.out⟩
set_option maxRecDepth 100000 in
set_option maxHeartbeats 4000000 in
theorem same_any (w : World) (A A' : Option Addr) (N S n c c' B : Nat) (cs : List Cl) (h : Reads w B 4 A n (cls cs)) (h' : Reads w B 4 A' n (cls cs)) (hB : B ≤ w.heap.size) (hn : n ≤ 1000000000) :
    Calls Tryd.prog 13 #[.agg #[.int .i64 N, .int .i64 S, .slice A n c], .agg #[.int .i64 N, .int .i64 S, .slice A' n c']] w fun e w' => e = .returned (.bool true) ∧ Below w.heap.size w w' := by
  have hb : Below w.heap.size w ((w.alloc (.cells #[.int .i64 N, .int .i64 S, .slice A n c] 34)).alloc (.cells #[.int .i64 N, .int .i64 S, .slice A' n c'] 34)) := ((Below.refl _ _).alloc (Nat.le_refl _) _).alloc (by simp) _
  have HS := Lib.hid (samecells_any ((w.alloc (.cells #[.int .i64 N, .int .i64 S, .slice A n c] 34)).alloc (.cells #[.int .i64 N, .int .i64 S, .slice A' n c'] 34)) A A' n c c' w.heap.size cs ((h.more hB).below hb) ((h'.more hB).below hb) hn)
  have HB := Lib.hid hb
  clear h h' hb
  go_enter Tryd.func13, Tryd.ntmps13
  go_wp2_with fail
  refine HS.out.mono ?_
  rintro e w1 ⟨rfl, hb1⟩
  have HB1 : Hid (Below w.heap.size w w1) := HB.out.trans (hb1.mono HB.out.size)
  clear hb1
  go_wp2_with fail
  go_ret
  exact ⟨rfl, HB1.out⟩
end Go.Proofs.YthakcefgbggkcaaDoor
