/- few says whether a text and edits are few. -/
import Derived.Test.YtocihnncfpmbnaaSize
namespace Go.Proofs.Ytocihnncfpmbnaa
open Go.RowKit

set_option maxHeartbeats 1000000 in
theorem few_any (s : ByteArray) (A : Option Addr) (n c B : Nat) (l : List Ed) (w : World) (hl : Reads w B 3 A n (eds l)) (hn : n ≤ maxLen) (hs : s.size ≤ maxLen) (ht : ∀ t ∈ l, t.ins.size ≤ reachBytes) :
    Calls Try.prog 13 #[.string s, .slice A n c] w (RetIf (s.size ≤ 300 ∧ n ≤ 12 ∧ sumIns l ≤ 400) w) := by
  have HL := Lib.hid hl
  have HLN := Lib.hid hl.len_eds
  have HT := Lib.hid ht
  unfold maxLen at hn hs
  clear hl ht
  by_cases h1 : s.size ≤ 300
  case neg =>
    have t1 : decide ((s.size : Int) ≤ 300) = false := by simp; omega
    go_enter Try.func13, Try.ntmps13
    go_wp2_with fail
    go_ret
    exact ⟨false, rfl, by simp, Below.refl _ _⟩
  have t1 : decide ((s.size : Int) ≤ 300) = true := by simp; omega
  by_cases h2 : n ≤ 12
  case neg =>
    have t2 : decide ((n : Int) ≤ 12) = false := by simp; omega
    go_enter Try.func13, Try.ntmps13
    go_wp2_with fail
    go_ret
    exact ⟨false, rfl, by simp, Below.refl _ _⟩
  have t2 : decide ((n : Int) ≤ 12) = true := by simp; omega
  have hsb := sumIns_bd l (by have := HLN.out; omega) HT.out
  have HSB := Lib.hid hsb
  clear hsb
  go_enter Try.func13, Try.ntmps13
  go_wp2_with (go_at_call 26; refine (size_any A n c B l w HL.out (by unfold maxLen; omega) HSB.out).mono ?_; rintro e w1 ⟨rfl, rfl⟩)
  go_ret
  refine ⟨_, rfl, fun h => ⟨h1, h2, ?_⟩, Below.refl _ _⟩
  have h' : ((sumIns l : Nat) : Int) ≤ 400 := by simpa using h
  omega
end Go.Proofs.Ytocihnncfpmbnaa
