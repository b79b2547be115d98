/- LineindexInverse and LineindexOrder return true for every text. -/
import Derived.Test.YthbcnpoldoklbaaLinAwake
namespace Go.Proofs.Ythbcnpoldoklbaa
open Go.RowKit

theorem spanT_line (s : ByteArray) {o : Nat} (h : o ≤ s.size) : o ≤ spanT s (lineNo s o) := by
  unfold spanT
  split
  · rename_i hlt
    have hx := List.getElem?_eq_getElem (l := starts s) (i := lineNo s o) hlt
    have := (starts_below s h hx).2 (Nat.le_refl _)
    rw [hx, Option.getD_some]
    omega
  · exact h
theorem pos_in {s : ByteArray} {o : Nat} (h : o ≤ s.size) : posL s o = lineNo s o ∧ posC s o = (o : Int) - lineAt s o ∧ posE s o = 0 := by
  unfold posL posC posE
  rw [if_pos ⟨by omega, by omega⟩, if_pos ⟨by omega, by omega⟩, if_pos ⟨by omega, by omega⟩, Int.toNat_natCast]
  exact ⟨rfl, rfl, rfl⟩
theorem pos_off {s : ByteArray} {o : Nat} (h : o ≤ s.size) : offV s (posL s o) (posC s o) = o ∧ offE s (posL s o) (posC s o) = 0 := by
  obtain ⟨h1, h2, _⟩ := pos_in h
  have h3 := lineNo_le s h
  have h4 := lineAt_le s o
  have h5 := spanT_line s h
  have h6 := spanF_line s h
  have hok : offOk s (posL s o) (posC s o) := by
    unfold offOk
    rw [h1, h2, Int.toNat_natCast, h6]
    exact ⟨⟨by omega, by omega⟩, by omega, by omega⟩
  unfold offV offE
  rw [if_pos hok, if_pos hok, h1, h2, Int.toNat_natCast, h6]
  exact ⟨by omega, rfl⟩
theorem line_next (s : ByteArray) (o : Nat) : (lineNo s (o + 1) = lineNo s o ∧ lineAt s (o + 1) = lineAt s o) ∨ (lineNo s (o + 1) = lineNo s o + 1) := by
  have h := startsTo_succ s o
  unfold lineNo lineAt
  split at h
  · right; rw [h]; simp
  · left; rw [h]; exact ⟨rfl, rfl⟩

set_option maxRecDepth 100000 in
set_option maxHeartbeats 1000000 in
theorem lawInverse_any (s : ByteArray) (w : World) : Calls Try.prog 3 #[.string s] w fun e w' => e = .returned (.bool true) ∧ Below w.heap.size w w' := by
  by_cases hs : s.size ≤ 300
  case neg =>
    have d0 : decide ((300 : Int) < s.size) = true := by simp; omega
    have d1 : decide (300 < s.size) = true := by simp; omega
    go_enter Try.func3, Try.ntmps3
    go_wp2_with fail
    refine (awake_any _).mono ?_
    rintro e w1 ⟨rfl, hb1⟩
    go_wp2_with fail
    go_ret
    exact ⟨rfl, hb1⟩
  have d0 : decide ((300 : Int) < s.size) = false := by simp; omega
  have d1 : decide (300 < s.size) = false := by simp; omega
  go_enter Try.func3, Try.ntmps3
  go_wp2_with fail
  refine (new_any s _ (by omega)).mono ?_
  rintro e w1 ⟨A, n, c, rfl, hn, R1, hb1⟩
  have hnl : n ≤ 300 := by
    rw [← R1.nats_len]
    have := startsTo_length s s.size
    unfold starts
    omega
  have HR := Lib.hid R1
  have hs1 := hb1.size
  have K := Blk.new' w1 25 #[.string s, .slice A n c] rfl
  have hb1' := hb1.alloc hs1 (.cells #[.string s, .slice A n c] 25)
  clear R1
  go_wp2_with fail
  go_loopw [4] (fun a wr => ∃ k : Nat, k ≤ s.size + 1 ∧ a = .int .i64 k ∧ Blk wr w1.heap.size 25 #[.string s, .slice A n c] ∧ Hid (Reads wr w1.heap.size 1 A n (nats (starts s))) ∧ Below w.heap.size w wr) (fun a _ => s.size + 1 - (intOf a).toNat)
  case atStart => exact ⟨0, by omega, rfl, K, HR.out.alloc (Nat.le_refl _) _, hb1'⟩
  case round =>
    obtain ⟨k, hk, rfl, B, HRr, hb⟩ := hrel
    have hsz := hb.size
    have hlt := B.lt
    have b0 := B.cell 0
    have b1 := B.cell 1
    simp at b0 b1
    by_cases hlk : k ≤ s.size
    · have hlkI : decide ((k : Int) ≤ s.size) = true := by simp; omega
      have hp := pos_in hlk
      have hq := pos_off hlk
      obtain ⟨pl, hpl⟩ : ∃ x, posL s k = x := ⟨_, rfl⟩
      obtain ⟨pc, hpc⟩ : ∃ x, posC s k = x := ⟨_, rfl⟩
      rw [hpl, hpc] at hq
      have HP := Lib.hid (show posL s k = pl ∧ posC s k = pc ∧ posE s k = 0 from ⟨hpl, hpc, hp.2.2⟩)
      have HQ := Lib.hid hq
      clear hp hq hpl hpc
      go_wp2_with fail
      refine (position_any s A n c w1.heap.size k _ HRr.out (by omega) (by omega) (by omega)).mono ?_
      rw [HP.out.1, HP.out.2.1, HP.out.2.2]
      rintro e w2 ⟨rfl, hb2⟩
      have B2 := (B.below hb2 hlt).alloc (.cells #[.int .i64 pl, .int .i64 pc] 28)
      have hbb2 : Below w.heap.size w w2 := hb.trans (hb2.mono hsz)
      have R2 := Lib.hid ((HRr.out.below (hb2.mono (by omega))).alloc (by have := hb2.size; omega) (.cells #[.int .i64 pl, .int .i64 pc] 28))
      have hs2 := hb2.size
      have c0 := B2.cell 0
      have c1 := B2.cell 1
      simp at c0 c1
      clear b0 b1
      go_wp2_with fail
      refine (offset_any s A n c w1.heap.size pl pc _ R2.out (by simp; omega) (by omega) (by omega)).mono ?_
      rw [HQ.out.1, HQ.out.2]
      rintro e w3 ⟨rfl, hb3⟩
      have hbb3 : Below w.heap.size w w3 := (hbb2.alloc hbb2.size _).trans (hb3.mono (by simp; omega))
      go_wp2_with fail
      go_roundw
      case rel => exact ⟨k + 1, by omega, by go_num, B2.below hb3 (by simp; omega), R2.out.below (hb3.mono (by simp; omega)), hbb3⟩
      case measure => simp [intOf]; omega
    · have hlkI : decide ((k : Int) ≤ s.size) = false := by simp; omega
      go_wp2_with fail
      refine (awake_any _).mono ?_
      rintro e w2 ⟨rfl, hb2⟩
      go_wp2_with fail
      go_ret
      exact ⟨rfl, hb.trans (hb2.mono hsz)⟩

set_option maxRecDepth 100000 in
set_option maxHeartbeats 1000000 in
theorem lawOrder_any (s : ByteArray) (w : World) : Calls Try.prog 4 #[.string s] w fun e w' => e = .returned (.bool true) ∧ Below w.heap.size w w' := by
  by_cases hs : s.size ≤ 300
  case neg =>
    have d0 : decide ((300 : Int) < s.size) = true := by simp; omega
    have d1 : decide (300 < s.size) = true := by simp; omega
    go_enter Try.func4, Try.ntmps4
    go_wp2_with fail
    refine (awake_any _).mono ?_
    rintro e w1 ⟨rfl, hb1⟩
    go_wp2_with fail
    go_ret
    exact ⟨rfl, hb1⟩
  have d0 : decide ((300 : Int) < s.size) = false := by simp; omega
  have d1 : decide (300 < s.size) = false := by simp; omega
  go_enter Try.func4, Try.ntmps4
  go_wp2_with fail
  refine (new_any s _ (by omega)).mono ?_
  rintro e w1 ⟨A, n, c, rfl, hn, R1, hb1⟩
  have hnl : n ≤ 300 := by
    rw [← R1.nats_len]
    have := startsTo_length s s.size
    unfold starts
    omega
  have HR := Lib.hid R1
  have hs1 := hb1.size
  have K := Blk.new' w1 25 #[.string s, .slice A n c] rfl
  have hb1' := hb1.alloc hs1 (.cells #[.string s, .slice A n c] 25)
  clear R1
  go_wp2_with fail
  go_loopw [4] (fun a wr => ∃ k : Nat, k ≤ s.size ∧ a = .int .i64 ((k : Int) + 1) ∧ Blk wr w1.heap.size 25 #[.string s, .slice A n c] ∧ Hid (Reads wr w1.heap.size 1 A n (nats (starts s))) ∧ Below w.heap.size w wr) (fun a _ => s.size + 1 - (intOf a).toNat)
  case atStart => exact ⟨0, by omega, rfl, K, HR.out.alloc (Nat.le_refl _) _, hb1'⟩
  case round =>
    obtain ⟨k, hk, rfl, B, HRr, hb⟩ := hrel
    have hsz := hb.size
    have hlt := B.lt
    have b0 := B.cell 0
    have b1 := B.cell 1
    simp at b0 b1
    by_cases hlk : k + 1 ≤ s.size
    · have hlkI : decide ((k : Int) + 1 ≤ s.size) = true := by simp; omega
      obtain ⟨p1, p2, p3⟩ := pos_in (s := s) (o := k) (by omega)
      obtain ⟨q1, q2, q3⟩ := pos_in (s := s) (o := k + 1) hlk
      have hla := lineAt_le s k
      have hla2 := lineAt_le s (k + 1)
      have hln2 := lineNo_le s hlk
      have hnn : (starts s).length = n := HRr.out.nats_len
      have hx := line_next s k
      have hcast : (((k + 1 : Nat) : Int)) = (k : Int) + 1 := by omega
      rw [hcast] at q1 q2 q3
      obtain ⟨l0, e0⟩ : ∃ x, lineNo s k = x := ⟨_, rfl⟩
      obtain ⟨l1, e1⟩ : ∃ x, lineNo s (k + 1) = x := ⟨_, rfl⟩
      obtain ⟨c0, e2⟩ : ∃ x, lineAt s k = x := ⟨_, rfl⟩
      obtain ⟨c1, e3⟩ : ∃ x, lineAt s (k + 1) = x := ⟨_, rfl⟩
      rw [e0] at p1 hx
      rw [e1] at q1 hx hln2
      rw [e2] at p2 hx hla
      rw [e3] at q2 hx hla2
      have HP := Lib.hid (show posL s k = l0 ∧ posC s k = (k : Int) - c0 ∧ posE s k = 0 from ⟨p1, p2, p3⟩)
      have HQ := Lib.hid (show posL s ((k : Int) + 1) = l1 ∧ posC s ((k : Int) + 1) = (k : Int) + 1 - c1 ∧ posE s ((k : Int) + 1) = 0 from ⟨q1, q2, q3⟩)
      have v0 : IntKind.i64.wrap ((k : Int) + 1 - 1) = (k : Int) := by rw [IntWalk.i64_in _ (by omega)]; omega
      have v1 : IntKind.i64.wrap ((l0 : Int) + 1) = (l0 : Int) + 1 := IntWalk.i64_in _ (by omega)
      have v2 : IntKind.i64.wrap ((k : Int) + 1 + 1) = (k : Int) + 1 + 1 := IntWalk.i64_in _ (by omega)
      have t1 : decide ((l1 : Int) < l0) = false := by simp; omega
      have t1' : decide (l1 < l0) = false := by simp; omega
      have t3 : decide ((l0 : Int) + 1 < l1) = false := by simp; omega
      have t4 : ((l0 : Int) == l1) = false ∨ (((l0 : Int) == l1) = true ∧ decide ((k : Int) + 1 - c1 ≤ (k : Int) - c0) = false) := by
        rcases hx with ⟨x1, x2⟩ | x1
        · right; exact ⟨by simp; omega, by simp; omega⟩
        · left; rw [beq_eq_false_iff_ne]; omega
      clear p1 p2 p3 q1 q2 q3 hcast e0 e1 e2 e3 hx hnn
      have T4 := Lib.hid t4
      clear t4
      go_wp2_with fail
      refine (position_any s A n c w1.heap.size k _ HRr.out (by omega) (by omega) (by omega)).mono ?_
      rw [HP.out.1, HP.out.2.1, HP.out.2.2]
      rintro e w2 ⟨rfl, hb2⟩
      have B2 := (B.below hb2 hlt).alloc (.cells #[.int .i64 l0, .int .i64 ((k : Int) - c0)] 28)
      have P2 := Blk.new' w2 28 #[.int .i64 l0, .int .i64 ((k : Int) - c0)] rfl
      have hbb2 : Below w.heap.size w w2 := hb.trans (hb2.mono hsz)
      have R2 := Lib.hid ((HRr.out.below (hb2.mono (by omega))).alloc (by have := hb2.size; omega) (.cells #[.int .i64 l0, .int .i64 ((k : Int) - c0)] 28))
      have hs2 := hb2.size
      have g0 := B2.cell 0
      have g1 := B2.cell 1
      simp at g0 g1
      clear b0 b1
      go_wp2_with fail
      refine (position_any s A n c w1.heap.size ((k : Int) + 1) _ R2.out (by simp; omega) (by omega) (by omega)).mono ?_
      rw [HQ.out.1, HQ.out.2.1, HQ.out.2.2]
      rintro e w3 ⟨rfl, hb3⟩
      have B3 := (B2.below hb3 (by simp; omega)).alloc (.cells #[.int .i64 l1, .int .i64 ((k : Int) + 1 - c1)] 28)
      have P3 := (P2.below hb3 (by simp)).alloc (.cells #[.int .i64 l1, .int .i64 ((k : Int) + 1 - c1)] 28)
      have hbb3 : Below w.heap.size w w3 := (hbb2.alloc hbb2.size _).trans (hb3.mono (by simp; omega))
      have hs3 := hb3.size
      simp only [World.size_alloc] at hs3
      have R3 := Lib.hid ((R2.out.below (hb3.mono (by simp; omega))).alloc (by omega) (.cells #[.int .i64 l1, .int .i64 ((k : Int) + 1 - c1)] 28))
      have p0 := P3.cell 0
      have p1 := P3.cell 1
      simp at p0 p1
      clear g0 g1
      rcases T4.out with t4 | ⟨t4, t5⟩
      all_goals
        go_wp2_with fail
        go_roundw
        case rel => exact ⟨k + 1, by omega, by go_num, B3, R3.out, hbb3.alloc hbb3.size _⟩
        case measure => simp [intOf]; omega
    · have hlkI : decide ((k : Int) + 1 ≤ s.size) = false := by simp; omega
      go_wp2_with fail
      refine (awake_any _).mono ?_
      rintro e w2 ⟨rfl, hb2⟩
      go_wp2_with fail
      go_ret
      exact ⟨rfl, hb.trans (hb2.mono hsz)⟩
end Go.Proofs.Ythbcnpoldoklbaa
