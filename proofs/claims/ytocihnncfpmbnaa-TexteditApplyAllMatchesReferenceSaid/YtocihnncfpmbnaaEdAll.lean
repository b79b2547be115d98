/- TexteditApplyAllMatchesReference returns true for every input within the form's reach. -/
import Derived.Test.YtocihnncfpmbnaaEdAwake
import Derived.Test.YtocihnncfpmbnaaFew
import Derived.Test.YtocihnncfpmbnaaRefEds
namespace Go.Proofs.Ytocihnncfpmbnaa
open Go.RowKit

set_option maxRecDepth 100000 in
set_option maxHeartbeats 1000000 in
theorem lawEdAll_any (s : ByteArray) (A : Option Addr) (n c : Nat) (l : List Ed) (w : World) (hl : Reads w w.heap.size 3 A n (eds l)) (hnc : n ≤ c) (hc : c ≤ maxLen) (hs : s.size ≤ maxLen) (ht : ∀ t ∈ l, t.ins.size ≤ reachBytes) :
    Calls Try.prog 4 #[.string s, .slice A n c] w fun e w' => e = .returned (.bool true) ∧ Below w.heap.size w w' := by
  have HL := Lib.hid hl
  have HT := Lib.hid ht
  have E := run_eql_ed
  have ES := Ed.eqb_self
  clear hl ht
  go_enter Try.func4, Try.ntmps4
  go_wp2_with fail
  refine (awake_any _).mono ?_
  rintro e w1 ⟨rfl, hb1⟩
  have hs1 := hb1.size
  have HL1 := Lib.hid (HL.out.below hb1)
  go_wp2_with fail
  refine (few_any s A n c w.heap.size l _ HL1.out (by omega) hs HT.out).mono ?_
  rintro e w2 ⟨bo, rfl, hok, hb2⟩
  have hbb2 : Below w.heap.size w w2 := hb1.trans (hb2.mono hs1)
  have hs2 := hbb2.size
  have HL2 := Lib.hid (HL.out.below hbb2)
  clear hb2 HL1 hb1
  cases bo with
  | false =>
    go_wp2_with fail
    go_ret
    exact ⟨rfl, hbb2⟩
  | true =>
  obtain ⟨q1, q2, q3⟩ := hok rfl
  clear hok
  go_wp2_with fail
  refine (applyAll_any s A n c w.heap.size l _ HL2.out hs2 (by omega) (by omega)).mono ?_
  rintro e w3 ⟨rfl, hb3⟩
  have hbb3 : Below w.heap.size w w3 := hbb2.trans (hb3.mono hbb2.size)
  have HL3 := Lib.hid (HL.out.below hbb3)
  go_wp2_with fail
  refine (refApplyAll_any s A n c w.heap.size l _ HL3.out hbb3.size (by omega) (by omega)).mono ?_
  rintro e w4 ⟨rfl, hb4⟩
  go_wp2_with fail
  go_ret
  exact ⟨rfl, hbb3.trans (hb4.mono hbb3.size)⟩
end Go.Proofs.Ytocihnncfpmbnaa
