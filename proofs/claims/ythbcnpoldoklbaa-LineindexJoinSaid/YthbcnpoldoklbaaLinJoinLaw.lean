/- LineindexJoin returns true for every text. -/
import Derived.Test.YthbcnpoldoklbaaLinJoin
namespace Go.Proofs.Ythbcnpoldoklbaa
open Go.RowKit

theorem clean_at {s : ByteArray} {k j : Nat} (hk : k ≤ (starts s).length) (hj : j < (lnText s k).size) : nlAt (lnText s k) j = false := by
  have h1 := spanF_le s hk
  have hz : (lnText s k).size = spanT s k - spanF s k := by unfold lnText; rw [ByteArray.size_extract]; omega
  have h2 := line_clean hk (show spanF s k ≤ spanF s k + j by omega) (show spanF s k + j < spanT s k by omega)
  unfold nlAt at h2 ⊢
  have : byteAt (lnText s k) j = byteAt s (spanF s k + j) := by
    unfold byteAt lnText
    simp only [ByteArray.data_extract, Array.getElem?_extract]
    rw [if_pos (by show j < min (spanT s k) s.data.size - spanF s k; have : s.data.size = s.size := rfl; omega)]
  rw [this]
  exact h2
/-- What is joined before line k. -/
def joinB (s : ByteArray) : Nat → ByteArray
  | 0 => ⟨#[]⟩
  | k + 1 => joinTo s k
theorem joinB_size (s : ByteArray) (k : Nat) : (joinB s k).size ≤ s.size := by
  cases k with
  | zero => exact Nat.zero_le _
  | succ k => unfold joinB joinTo; rw [ByteArray.size_extract]; omega
theorem lnText_size (s : ByteArray) (k : Nat) : (lnText s k).size ≤ s.size := by unfold lnText; rw [ByteArray.size_extract]; omega

set_option maxRecDepth 100000 in
set_option maxHeartbeats 1000000 in
theorem lawJoin_any (s : ByteArray) (w : World) : Calls Try.prog 7 #[.string s] w fun e w' => e = .returned (.bool true) ∧ Below w.heap.size w w' := by
  by_cases hs : s.size ≤ 300
  case neg =>
    have d0 : decide ((300 : Int) < s.size) = true := by simp; omega
    have d1 : decide (300 < s.size) = true := by simp; omega
    go_enter Try.func7, Try.ntmps7
    go_wp2_with fail
    refine (awake_any _).mono ?_
    rintro e w1 ⟨rfl, hb1⟩
    go_wp2_with fail
    go_ret
    exact ⟨rfl, hb1⟩
  have d0 : decide ((300 : Int) < s.size) = false := by simp; omega
  have d1 : decide (300 < s.size) = false := by simp; omega
  go_enter Try.func7, Try.ntmps7
  go_wp2_with fail
  refine (new_any s _ (by omega)).mono ?_
  rintro e w1 ⟨A, n, c, rfl, hn, R1, hb1⟩
  have hln := R1.nats_len
  have hns : n ≤ s.size := by
    rw [← hln]
    have := startsTo_length s s.size
    unfold starts
    omega
  have HR := Lib.hid R1
  have HLEN := Lib.hid hln
  have hs1 := hb1.size
  have K := Blk.new' w1 25 #[.string s, .slice A n c] rfl
  have hb1' := hb1.alloc hs1 (.cells #[.string s, .slice A n c] 25)
  clear R1 hln
  go_wp2_with fail
  go_loopw [4, 5] (fun t a wr => ∃ k : Nat, k ≤ n + 1 ∧ a = .int .i64 k ∧ t = .string (joinB s k) ∧ Blk wr w1.heap.size 25 #[.string s, .slice A n c] ∧ Hid (Reads wr w1.heap.size 1 A n (nats (starts s))) ∧ Below w.heap.size w wr) (fun _ a _ => n + 1 - (intOf a).toNat)
  case atStart => exact ⟨0, by omega, rfl, rfl, K, HR.out.alloc (Nat.le_refl _) _, hb1'⟩
  case round =>
    obtain ⟨k, hk, rfl, rfl, B, HRr, hb⟩ := hrel
    have hsz := hb.size
    have hlt := B.lt
    have b0 := B.cell 0
    have b1 := B.cell 1
    simp at b0 b1
    by_cases hlk : k < n + 1
    · have hkI : decide ((k : Int) < (n : Int) + 1) = true := by simp; omega
      have hkS : decide ((k : Int) ≤ s.size) = true := by simp; omega
      have hkn : k ≤ (starts s).length := by rw [HLEN.out]; omega
      have HLN := Lib.hid (ln_in hkn)
      have HCL := Lib.hid (show ∀ j, j < (lnText s k).size → nlAt (lnText s k) j = false from fun j hj => clean_at hkn hj)
      have hxz := lnText_size s k
      have hjz := joinB_size s k
      have HJ : Hid ((if k = 0 then joinB s k else joinB s k ++ ⟨#[10]⟩) ++ lnText s k = joinB s (k + 1)) := by
        refine Lib.hid ?_
        cases k with
        | zero => exact join_zero s
        | succ m => rw [if_neg (by omega)]; exact join_next (by omega)
      clear hkn
      go_wp2_with fail
      refine (lines_any s A n c _ (by omega)).mono ?_
      rintro e w2 ⟨rfl, hb2⟩
      have B2 := B.below hb2 hlt
      have hs2 := hb2.size
      have R2 := Lib.hid (HRr.out.below (hb2.mono (by omega)))
      have c0 := B2.cell 0
      have c1 := B2.cell 1
      simp at c0 c1
      clear b0 b1
      go_wp2_with fail
      refine (line_any s A n c w1.heap.size k _ R2.out (by omega) (by omega) (by omega)).mono ?_
      rw [HLN.out.1, HLN.out.2]
      rintro e w3 ⟨rfl, hb3⟩
      have B3 := B2.below hb3 (by omega)
      have R3 := Lib.hid (R2.out.below (hb3.mono (by omega)))
      have hbb3 : Below w.heap.size w w3 := (hb.trans (hb2.mono hsz)).trans (hb3.mono (by omega))
      clear c0 c1
      generalize lnText s k = x at *
      generalize joinB s k = t at *
      go_wp2_with fail
      go_loopw [8] (fun a wr => ∃ j : Nat, j ≤ x.size ∧ a = .int .i64 j ∧ wr = w3) (fun a _ => x.size - (intOf a).toNat)
      case atStart => exact ⟨0, Nat.zero_le _, rfl, rfl⟩
      case round =>
        obtain ⟨j, hj, rfl, rfl⟩ := hrel
        by_cases hjx : j < x.size
        · have hbt := byte_test x hjx
          rw [HCL.out j hjx] at hbt
          go_wp2_with fail
          go_roundw
          case rel => exact ⟨j + 1, by omega, by go_num, trivial⟩
          case measure => simp [intOf]; omega
        · have hz1 : ¬ (9223372036854775807 < t.size + x.size) := by omega
          by_cases hk0 : k = 0
          · have e0 : decide ((0 : Int) < k) = false := by simp; omega
            have e0' : decide (0 < k) = false := by simp; omega
            rw [if_pos hk0] at HJ
            clear hk0
            go_wp2_with fail
            go_roundw
            case rel => exact ⟨k + 1, by omega, by go_num, by rw [← HJ.out], B3, R3.out, hbb3⟩
            case measure => simp [intOf]; omega
          · have e0 : decide ((0 : Int) < k) = true := by simp; omega
            have e0' : decide (0 < k) = true := by simp; omega
            rw [if_neg hk0] at HJ
            have hz2 : (ByteArray.mk #[10]).size = 1 := rfl
            clear hk0
            go_wp2_with fail
            go_roundw
            case rel => exact ⟨k + 1, by omega, by go_num, by rw [← HJ.out], B3, R3.out, hbb3⟩
            case measure => simp [intOf]; omega
    · have hkI : decide ((k : Int) < (n : Int) + 1) = false := by simp; omega
      have hkn : k = n + 1 := by omega
      have HE : Hid (joinB s k = s) := by
        refine Lib.hid ?_
        rw [hkn]
        unfold joinB
        rw [← HLEN.out]
        exact join_end s
      have T := ba_beq s
      clear hkn
      go_wp2_with fail
      refine (lines_any s A n c _ (by omega)).mono ?_
      rintro e w2 ⟨rfl, hb2⟩
      have hbb2 := hb.trans (hb2.mono hsz)
      go_wp2_with fail
      refine (awake_any _).mono ?_
      rintro e w3 ⟨rfl, hb3⟩
      rw [HE.out]
      go_wp2_with fail
      go_ret
      exact ⟨rfl, hbb2.trans (hb3.mono hbb2.size)⟩
end Go.Proofs.Ythbcnpoldoklbaa
