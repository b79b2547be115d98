/- TexteditComposeEquivalent returns true for every input within the form's reach. -/
import Derived.Test.YtocihnncfpmbnaaEdAwake
import Derived.Test.YtocihnncfpmbnaaFew
namespace Go.Proofs.Ytocihnncfpmbnaa
open Go.RowKit

theorem apAll_size : ∀ (l : List Ed) (s : ByteArray), (apAll s l).1.size ≤ s.size + sumIns l
  | [], s => by simp [apAll]
  | e :: l, s => by
    cases h : e.ok s.size with
    | true =>
      rw [apAll_ok h]
      have h1 := apAll_size l (apT s e)
      have h2 := apT_size s e
      simp only [sumIns, List.map_cons, List.sum_cons] at *
      omega
    | false => rw [apAll_no h]; exact Nat.zero_le _
theorem compE_size (s : ByteArray) (l : List Ed) : (compE s l).ins.size ≤ s.size + sumIns l := by
  unfold compE
  split
  · have := apAll_size l s
    simp only [ByteArray.size_extract]
    omega
  · exact Nat.zero_le _

set_option maxRecDepth 100000 in
set_option maxHeartbeats 1000000 in
theorem lawEdEquiv_any (s : ByteArray) (A : Option Addr) (n c : Nat) (l : List Ed) (w : World) (hl : Reads w w.heap.size 3 A n (eds l)) (hnc : n ≤ c) (hc : c ≤ maxLen) (hs : s.size ≤ maxLen) (ht : ∀ t ∈ l, t.ins.size ≤ reachBytes) :
    Calls Try.prog 6 #[.string s, .slice A n c] w fun e w' => e = .returned (.bool true) ∧ Below w.heap.size w w' := by
  have HL := Lib.hid hl
  have HT := Lib.hid ht
  have E := run_eql_ed
  have ES := Ed.eqb_self
  clear hl ht
  go_enter Try.func6, Try.ntmps6
  go_wp2_with fail
  refine (awake_any _).mono ?_
  rintro e w1 ⟨rfl, hb1⟩
  have hs1 := hb1.size
  have HL1 := Lib.hid (HL.out.below hb1)
  go_wp2_with fail
  refine (few_any s A n c w.heap.size l _ HL1.out (by omega) hs HT.out).mono ?_
  rintro e w2 ⟨bo, rfl, hok, hb2⟩
  have hbb2 : Below w.heap.size w w2 := hb1.trans (hb2.mono hs1)
  have hs2 := hbb2.size
  have HL2 := Lib.hid (HL.out.below hbb2)
  clear hb2 HL1 hb1
  cases bo with
  | false =>
    go_wp2_with fail
    go_ret
    exact ⟨rfl, hbb2⟩
  | true =>
  obtain ⟨q1, q2, q3⟩ := hok rfl
  clear hok
  have hks := compE_size s l
  by_cases hz : (apAll s l).2 = 0
  · obtain ⟨ha1, ha2⟩ := compE_apply hz
    obtain ⟨T, f, hT⟩ : ∃ T f, apAll s l = (T, f) := ⟨_, _, rfl⟩
    rw [hT] at ha2 hz
    simp only at hz ha2
    subst hz
    obtain ⟨⟨kp, kd, kt⟩, hk⟩ : ∃ e, compE s l = e := ⟨_, rfl⟩
    rw [hk] at hks ha1 ha2
    have HK := Lib.hid hk
    have HA := Lib.hid hT
    have HF := Lib.hid (apF_ok ha1)
    have HX := Lib.hid ha2
    simp only at hks
    clear hk hT ha1 ha2
    go_wp2_with fail
    refine (applyAll_any s A n c w.heap.size l _ HL2.out hs2 (by omega) (by omega)).mono ?_
    rw [HA.out]
    rintro e w3 ⟨rfl, hb3⟩
    have hbb3 : Below w.heap.size w w3 := hbb2.trans (hb3.mono hbb2.size)
    have HL3 := Lib.hid (HL.out.below hbb3)
    go_wp2_with fail
    refine (compose_any s A n c w.heap.size l _ HL3.out hbb3.size hnc hc (by omega)).mono ?_
    rw [HK.out, HA.out]
    rintro e w4 ⟨rfl, hb4⟩
    have hbb4 : Below w.heap.size w w4 := hbb3.trans (hb4.mono hbb3.size)
    have hs4 := hbb4.size
    go_wp2_with fail
    refine (apply_any s kp kd kt _ (by omega)).mono ?_
    rw [HF.out, HX.out]
    rintro e w5 ⟨rfl, hb5⟩
    go_wp2_with fail
    go_ret
    exact ⟨rfl, (hbb4.alloc hs4 _).trans (hb5.mono (by simp; omega))⟩
  · have hk : compE s l = ed0 := compE_no fun g => hz g.1
    obtain ⟨T, f, hT⟩ : ∃ T f, apAll s l = (T, f) := ⟨_, _, rfl⟩
    rw [hT] at hz
    simp only at hz
    have hz2 : (f != 0) = true := by simp [hz]
    have HK := Lib.hid hk
    have HA := Lib.hid hT
    clear hk hT hz
    go_wp2_with fail
    refine (applyAll_any s A n c w.heap.size l _ HL2.out hs2 (by omega) (by omega)).mono ?_
    rw [HA.out]
    rintro e w3 ⟨rfl, hb3⟩
    have hbb3 : Below w.heap.size w w3 := hbb2.trans (hb3.mono hbb2.size)
    have HL3 := Lib.hid (HL.out.below hbb3)
    go_wp2_with fail
    refine (compose_any s A n c w.heap.size l _ HL3.out hbb3.size hnc hc (by omega)).mono ?_
    rw [HK.out, HA.out]
    unfold ed0
    rintro e w4 ⟨rfl, hb4⟩
    have hbb4 : Below w.heap.size w w4 := hbb3.trans (hb4.mono hbb3.size)
    have hs4 := hbb4.size
    go_wp2_with fail
    go_ret
    exact ⟨rfl, hbb4.alloc hs4 _⟩
end Go.Proofs.Ytocihnncfpmbnaa
