/- TexteditInvertAllRestores returns true for every input within the form's reach. -/
import Derived.Test.YtocihnncfpmbnaaEdAwake
import Derived.Test.YtocihnncfpmbnaaFew
import Derived.Test.YtocihnncfpmbnaaInvAllWalk
import Derived.Test.YtocihnncfpmbnaaSameEds
namespace Go.Proofs.Ytocihnncfpmbnaa
open Go.RowKit

set_option maxRecDepth 100000 in
set_option maxHeartbeats 1000000 in
theorem lawEdInvAll_any (s : ByteArray) (A : Option Addr) (n c : Nat) (l : List Ed) (w : World) (hl : Reads w w.heap.size 3 A n (eds l)) (hnc : n ≤ c) (hc : c ≤ maxLen) (hs : s.size ≤ maxLen) (ht : ∀ t ∈ l, t.ins.size ≤ reachBytes) :
    Calls Try.prog 11 #[.string s, .slice A n c] w fun e w' => e = .returned (.bool true) ∧ Below w.heap.size w w' := by
  have HL := Lib.hid hl
  have HT := Lib.hid ht
  have E := run_eql_ed
  have ES := Ed.eqb_self
  clear hl ht
  go_enter Try.func11, Try.ntmps11
  go_wp2_with fail
  refine (awake_any _).mono ?_
  rintro e w1 ⟨rfl, hb1⟩
  have hs1 := hb1.size
  have HL1 := Lib.hid (HL.out.below hb1)
  go_wp2_with fail
  refine (few_any s A n c w.heap.size l _ HL1.out (by omega) hs HT.out).mono ?_
  rintro e w2 ⟨bo, rfl, hok, hb2⟩
  have hbb2 : Below w.heap.size w w2 := hb1.trans (hb2.mono hs1)
  have hs2 := hbb2.size
  have HL2 := Lib.hid (HL.out.below hbb2)
  clear hb2 HL1 hb1
  cases bo with
  | false =>
    go_wp2_with fail
    go_ret
    exact ⟨rfl, hbb2⟩
  | true =>
  obtain ⟨q1, q2, q3⟩ := hok rfl
  clear hok
  have HS12 : s.size + sumIns l ≤ 700 := by omega
  by_cases hz : (apAll s l).2 = 0
  · obtain ⟨bk1, bk2⟩ := back l s hz
    have hI := invAll_ok hz
    have hII : (apAll (apAll s l).1 (invAll s l)).2 = 0 := by rw [hI, bk1]
    have hI2 := invAll_ok hII
    rw [hI] at hI2
    rw [bk2] at hI2
    rw [← hI] at hI2 bk1
    have hIz : sumIns (invAll s l) ≤ 12 * 700 := by
      rw [hI, sumIns_reverse]
      have h1 := sumIns_invs l s 700 HS12
      have h2 : l.length = n := HL.out.len_eds
      rw [h2] at h1
      exact Nat.le_trans h1 (Nat.mul_le_mul_right _ q2)
    have hTz : (apAll s l).1.size ≤ 700 := Nat.le_trans (apAll_size' l s) HS12
    have hIn : (invAll s l).length = n := by rw [hI, List.length_reverse, invs_length]; exact HL.out.len_eds
    obtain ⟨T, f, hT⟩ : ∃ T f, apAll s l = (T, f) := ⟨_, _, rfl⟩
    rw [hT] at hz bk1 hI2 hTz
    simp only at hz bk1 hI2 hTz
    subst hz
    obtain ⟨J, hJ⟩ : ∃ J, invAll s l = J := ⟨_, rfl⟩
    rw [hJ] at hI2 bk1 hIz hIn
    have HA := Lib.hid hT
    have HJ := Lib.hid hJ
    have HB := Lib.hid bk1
    have HI2 := Lib.hid hI2
    have HSM := Lib.hid (sameE_iff.2 (rfl : l = l))
    have HIN := Lib.hid hIn
    clear hT hJ bk1 bk2 hI2 hI hII hIn
    go_wp2_with fail
    refine (applyAll_any s A n c w.heap.size l _ HL2.out hs2 (by unfold maxLen; omega) (by omega)).mono ?_
    rw [HA.out]
    rintro e w3 ⟨rfl, hb3⟩
    have hbb3 : Below w.heap.size w w3 := hbb2.trans (hb3.mono hbb2.size)
    have HL3 := Lib.hid (HL.out.below hbb3)
    go_wp2_with fail
    refine (invertAll_any s A n c w.heap.size l _ HL3.out hbb3.size (by omega) (by omega)).mono ?_
    rw [HA.out, HJ.out]
    rintro e w4 ⟨A4, m4, rfl, hm4, R4, hb4⟩
    have hbb4 : Below w.heap.size w w4 := hbb3.trans (hb4.mono hbb3.size)
    have HR4 := Lib.hid R4
    clear R4 hb4 hb3
    go_wp2_with fail
    refine (applyAll_any T A4 m4 m4 w4.heap.size J _ HR4.out (Nat.le_refl _) (by unfold maxLen; omega) (by omega)).mono ?_
    rw [HB.out]
    rintro e w5 ⟨rfl, hb5⟩
    have hbb5 : Below w.heap.size w w5 := hbb4.trans (hb5.mono hbb4.size)
    have HR5 := Lib.hid (HR4.out.below hb5)
    have hs5 := hb5.size
    go_wp2_with fail
    refine (invertAll_any T A4 m4 m4 w4.heap.size J _ HR5.out hs5 hm4 (by omega)).mono ?_
    rw [HB.out, HI2.out]
    rintro e w6 ⟨A6, m6, rfl, hm6, R6, hb6⟩
    have hbb6 : Below w.heap.size w w6 := hbb5.trans (hb6.mono hbb5.size)
    have HR6 := Lib.hid R6
    have HL6 := Lib.hid (HL.out.below hbb6)
    clear R6 hb6
    go_wp2_with fail
    refine (sameEds_any A6 A m6 n m6 c w6.heap.size w.heap.size l l _ HR6.out HL6.out (by unfold maxLen; omega) (by unfold maxLen; omega)).mono ?_
    rw [HSM.out]
    rintro e w7 ⟨rfl, n7, rfl⟩
    go_wp2_with fail
    go_ret
    exact ⟨rfl, below_drewN hbb6 _⟩
  · have hk := invAll_no hz
    obtain ⟨T, f, hT⟩ : ∃ T f, apAll s l = (T, f) := ⟨_, _, rfl⟩
    rw [hT] at hz
    simp only at hz
    have hz2 : (f != 0) = true := by simp [hz]
    have HK := Lib.hid hk
    have HA := Lib.hid hT
    clear hk hT hz
    go_wp2_with fail
    refine (applyAll_any s A n c w.heap.size l _ HL2.out hs2 (by unfold maxLen; omega) (by omega)).mono ?_
    rw [HA.out]
    rintro e w3 ⟨rfl, hb3⟩
    have hbb3 : Below w.heap.size w w3 := hbb2.trans (hb3.mono hbb2.size)
    have HL3 := Lib.hid (HL.out.below hbb3)
    go_wp2_with fail
    refine (invertAll_any s A n c w.heap.size l _ HL3.out hbb3.size (by omega) (by omega)).mono ?_
    rw [HK.out, HA.out]
    rintro e w4 ⟨A4, m4, rfl, hm4, R4, hb4⟩
    have hm0 : m4 = 0 := by have := R4.len_eds; simpa using this.symm
    subst hm0
    have hbb4 : Below w.heap.size w w4 := hbb3.trans (hb4.mono hbb3.size)
    go_wp2_with fail
    go_ret
    exact ⟨rfl, hbb4⟩
end Go.Proofs.Ytocihnncfpmbnaa
