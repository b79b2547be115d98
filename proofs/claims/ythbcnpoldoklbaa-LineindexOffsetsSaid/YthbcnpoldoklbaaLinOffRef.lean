/- The reference's Line and Offset: as the program's. -/
import Derived.Test.YthbcnpoldoklbaaLinSame
namespace Go.Proofs.Ythbcnpoldoklbaa
open Go.RowKit

set_option maxHeartbeats 1000000 in
theorem refLine_any (s : ByteArray) (l : Int) (w : World) (hs : s.size ≤ 1048576) :
    Calls Try.prog 17 #[.string s, .int .i64 l] w
      fun e w' => e = .returned (.tuple #[.string (lnT s l), .int .i64 (lnE s l)]) ∧ Below w.heap.size w w' := by
  have hll := linesL_length s
  have hsl : (starts s).length ≤ 1048576 := by have := startsTo_length s s.size; unfold starts; omega
  obtain ⟨N, hN⟩ : ∃ N, (linesL s).length = N := ⟨_, rfl⟩
  rw [hN] at hll
  have R0 : ¬ lnOk s l → Hid (lnT s l = ⟨#[]⟩ ∧ lnE s l = 2) := fun h => by
    refine Lib.hid ?_
    unfold lnT lnE
    rw [if_neg h, if_neg h]
    exact ⟨rfl, rfl⟩
  have HN := Lib.hid hN
  clear hN
  by_cases h0 : l < 0
  · have R := R0 (fun h => by have := h.1; omega)
    have d0 : decide (l < 0) = true := by simp [h0]
    clear R0
    go_enter Try.func17, Try.ntmps17
    go_wp2_with fail
    refine (refLines_any s _ (by omega)).mono ?_
    rintro e w1 ⟨A1, c1, rfl, R1, hb1⟩
    go_wp2_with fail
    go_ret2
    exact ⟨by rw [R.out.1, R.out.2]; rfl, hb1⟩
  have d0 : decide (l < 0) = false := by simp; omega
  by_cases h1 : (N : Int) ≤ l
  · have R := R0 (fun h => by have := h.2; omega)
    have d1 : decide ((N : Int) ≤ l) = true := by simp [h1]
    clear R0
    go_enter Try.func17, Try.ntmps17
    go_wp2_with fail
    refine (refLines_any s _ (by omega)).mono ?_
    rintro e w1 ⟨A1, c1, rfl, R1, hb1⟩
    rw [HN.out]
    go_wp2_with fail
    go_ret2
    exact ⟨by rw [R.out.1, R.out.2]; rfl, hb1⟩
  obtain ⟨k, rfl⟩ := Int.eq_ofNat_of_zero_le (Int.not_lt.1 h0)
  have d1 : decide ((N : Int) ≤ (k : Int)) = false := by simp; omega
  have d2 : decide (N ≤ k) = false := by simp; omega
  have hkn : k ≤ (starts s).length := by omega
  have hkI : (k : Int) < (N : Int) := by omega
  have HLN := Lib.hid (ln_in hkn)
  have HLA := Lib.hid (linesL_at hkn)
  clear R0 hkn hll
  go_enter Try.func17, Try.ntmps17
  go_wp2_with fail
  refine (refLines_any s _ (by omega)).mono ?_
  rintro e w1 ⟨A1, c1, rfl, R1, hb1⟩
  rw [HN.out] at R1 ⊢
  obtain ⟨b, off, rfl, hbb, hc⟩ := R1.str_at HLA.out
  clear R1
  go_wp2_with fail
  go_ret2
  exact ⟨by rw [HLN.out.1, HLN.out.2]; rfl, hb1⟩
end Go.Proofs.Ythbcnpoldoklbaa
