/- The reference's Position and Lines: as the program's. -/
import Derived.Test.YthbcnpoldoklbaaLinInverse
namespace Go.Proofs.Ythbcnpoldoklbaa
open Go.RowKit

theorem byte_test (s : ByteArray) {i : Nat} (h : i < s.size) : ((s[i].toNat : Int) == 10) = nlAt s i := by
  unfold nlAt
  rw [byteAt_eq s i h]
  generalize s[i] = x
  have : ((x.toNat : Int) = 10) ↔ x = 10 := by
    rw [← UInt8.toNat_inj]
    simp
    omega
  by_cases h : x = 10
  · subst h; rfl
  · have h2 : ¬ (x.toNat : Int) = 10 := fun e => h (this.1 e)
    rw [beq_eq_false_iff_ne.2 h2, beq_eq_false_iff_ne.2 h]
theorem line_nl {s : ByteArray} {o : Nat} (h : nlAt s o = true) : lineNo s (o + 1) = lineNo s o + 1 ∧ lineAt s (o + 1) = o + 1 := by
  have h1 := startsTo_succ s o
  rw [h] at h1
  unfold lineNo lineAt
  rw [h1]
  simp
theorem line_no {s : ByteArray} {o : Nat} (h : nlAt s o = false) : lineNo s (o + 1) = lineNo s o ∧ lineAt s (o + 1) = lineAt s o := by
  have h1 := startsTo_succ s o
  rw [h] at h1
  unfold lineNo lineAt
  rw [h1]
  exact ⟨rfl, rfl⟩

set_option maxHeartbeats 2000000 in
theorem refPosition_any (s : ByteArray) (o : Int) (w : World) (hs : s.size ≤ 1048577) :
    Calls Try.prog 18 #[.string s, .int .i64 o] w
      fun e w' => e = .returned (.tuple #[.agg #[.int .i64 (posL s o), .int .i64 (posC s o)], .int .i64 (posE s o)]) ∧ Below w.heap.size w w' := by
  have K4 := Blk.new' w 28 #[.int .i64 0, .int .i64 0] rfl
  have hb0 : Below w.heap.size w (w.alloc (.cells #[.int .i64 0, .int .i64 0] 28)) := (Below.refl _ _).alloc (Nat.le_refl _) _
  by_cases ho : 0 ≤ o ∧ o ≤ s.size
  case neg =>
    have R := Lib.hid (show posL s o = 0 ∧ posC s o = 0 ∧ posE s o = 2 by unfold posL posC posE; rw [if_neg ho, if_neg ho, if_neg ho]; exact ⟨rfl, rfl, rfl⟩)
    by_cases h0 : o < 0
    · have d0 : decide (o < 0) = true := by simp [h0]
      go_enter Try.func18, Try.ntmps18
      go_wp2_with fail
      exact bodyPost_ret (results_pos rfl rfl (K4.cell 0) (K4.cell 1) rfl) rfl ⟨by rw [R.out.1, R.out.2.1, R.out.2.2]; rfl, hb0⟩
    · have d0 : decide (o < 0) = false := by simp; omega
      have d1 : decide ((s.size : Int) < o) = true := by simp; omega
      go_enter Try.func18, Try.ntmps18
      go_wp2_with fail
      exact bodyPost_ret (results_pos rfl rfl (K4.cell 0) (K4.cell 1) rfl) rfl ⟨by rw [R.out.1, R.out.2.1, R.out.2.2]; rfl, hb0⟩
  obtain ⟨o0, o1⟩ := ho
  obtain ⟨oN, rfl⟩ := Int.eq_ofNat_of_zero_le o0
  have hoN : oN ≤ s.size := by omega
  have R := Lib.hid (pos_in hoN)
  have d0 : decide ((oN : Int) < 0) = false := by simp
  have d1 : decide ((s.size : Int) < (oN : Int)) = false := by simp; omega
  have d2 : decide (s.size < oN) = false := by simp; omega
  go_enter Try.func18, Try.ntmps18
  go_wp2_with fail
  go_loopw [7] (fun a wr => ∃ k : Nat, k ≤ oN ∧ a = .int .i64 k ∧ Blk wr w.heap.size 28 #[.int .i64 0, .int .i64 0] ∧ Blk wr (w.heap.size + 1) 28 #[.int .i64 (lineNo s k), .int .i64 ((k : Int) - lineAt s k)] ∧ Below w.heap.size w wr) (fun a _ => oN - (intOf a).toNat)
  case atStart => exact ⟨0, by omega, rfl, K4.alloc _, Blk.new' _ _ _ (by simp), hb0.alloc hb0.size _⟩
  case round =>
    obtain ⟨k, hk, rfl, B4, B6, hb⟩ := hrel
    have hl4 := B4.lt
    have hl6 := B6.lt
    have c0 := B6.cell 0
    have c1 := B6.cell 1
    have f0 := B6.frozen 0
    have f1 := B6.frozen 1
    simp at c0 c1
    by_cases hlt : k < oN
    · have hks : k < s.size := by omega
      have hbt := byte_test s hks
      have hla := lineAt_le s k
      have hln : lineNo s k ≤ s.size := Nat.le_trans (startsTo_length s k) (by omega)
      have v0 : IntKind.i64.wrap ((k : Int) - (lineAt s k : Int) + 1) = (k : Int) - (lineAt s k : Int) + 1 := IntWalk.i64_in _ (by omega)
      have v1 : IntKind.i64.wrap ((lineNo s k : Int) + 1) = (lineNo s k : Int) + 1 := IntWalk.i64_in _ (by omega)
      cases hc : nlAt s k with
      | false =>
        rw [hc] at hbt
        have HN := Lib.hid (line_no hc)
        clear hc
        go_wp2_with fail
        go_roundw
        case rel =>
          refine ⟨k + 1, by omega, by go_num, B4.far (by simp) _, ?_, hb.setCell (by simp) _⟩
          rw [HN.out.1, HN.out.2, show (((k + 1 : Nat) : Int)) - (lineAt s k : Int) = (k : Int) - (lineAt s k : Int) + 1 by omega]
          exact B6.set21 _
        case measure => simp [intOf]; omega
      | true =>
        rw [hc] at hbt
        have HN := Lib.hid (line_nl hc)
        clear hc
        go_wp2_with fail
        go_roundw
        case rel =>
          refine ⟨k + 1, by omega, by go_num, ((B4.far (by simp) _).far (by simp) _).far (by simp) _, ?_, ((hb.setCell (by simp) _).setCell (by simp) _).setCell (by simp) _⟩
          rw [HN.out.1, HN.out.2, show (((k + 1 : Nat) : Int)) - ((k + 1 : Nat) : Int) = 0 by omega, show (((lineNo s k + 1 : Nat)) : Int) = (lineNo s k : Int) + 1 by omega]
          exact (B6.set21 _).set2 _ _
        case measure => simp [intOf]; omega
    · have hko : k = oN := by omega
      subst hko
      have a0 := B4.cell 0
      have a1 := B4.cell 1
      have g0 := B4.frozen 0
      have g1 := B4.frozen 1
      simp at a0 a1
      go_wp2_with fail
      have r1 := B4.set2 (.int .i64 (lineNo s k)) (.int .i64 ((k : Int) - lineAt s k))
      refine bodyPost_ret (results_pos rfl rfl (r1.cell 0) (r1.cell 1) rfl) rfl ⟨by rw [R.out.1, R.out.2.1, R.out.2.2]; rfl, ?_⟩
      exact (hb.setCell (by simp) _).setCell (by simp) _
end Go.Proofs.Ythbcnpoldoklbaa
