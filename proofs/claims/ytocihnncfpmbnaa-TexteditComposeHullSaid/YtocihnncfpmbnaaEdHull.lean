/- TexteditComposeHull returns true for every input within the form's reach. -/
import Derived.Test.YtocihnncfpmbnaaEdAwake
import Derived.Test.YtocihnncfpmbnaaFew
import Derived.Test.YtocihnncfpmbnaaRefCompose
namespace Go.Proofs.Ytocihnncfpmbnaa
open Go.RowKit

set_option maxRecDepth 100000 in
set_option maxHeartbeats 1000000 in
theorem lawEdHull_any (s : ByteArray) (A : Option Addr) (n c : Nat) (l : List Ed) (w : World) (hl : Reads w w.heap.size 3 A n (eds l)) (hnc : n ≤ c) (hc : c ≤ maxLen) (hs : s.size ≤ maxLen) (ht : ∀ t ∈ l, t.ins.size ≤ reachBytes) :
    Calls Try.prog 7 #[.string s, .slice A n c] w fun e w' => e = .returned (.bool true) ∧ Below w.heap.size w w' := by
  have HL := Lib.hid hl
  have HT := Lib.hid ht
  have E := run_eql_ed
  have ES := Ed.eqb_self
  clear hl ht
  go_enter Try.func7, Try.ntmps7
  go_wp2_with fail
  refine (awake_any _).mono ?_
  rintro e w1 ⟨rfl, hb1⟩
  have hs1 := hb1.size
  have HL1 := Lib.hid (HL.out.below hb1)
  go_wp2_with fail
  refine (few_any s A n c w.heap.size l _ HL1.out (by omega) hs HT.out).mono ?_
  rintro e w2 ⟨bo, rfl, hok, hb2⟩
  have hbb2 : Below w.heap.size w w2 := hb1.trans (hb2.mono hs1)
  have hs2 := hbb2.size
  have HL2 := Lib.hid (HL.out.below hbb2)
  clear hb2 HL1 hb1
  cases bo with
  | false =>
    go_wp2_with fail
    go_ret
    exact ⟨rfl, hbb2⟩
  | true =>
  obtain ⟨q1, q2, q3⟩ := hok rfl
  clear hok
  obtain ⟨⟨kp, kd, kt⟩, hk⟩ : ∃ e, compE s l = e := ⟨_, rfl⟩
  have HK := Lib.hid hk
  clear hk
  go_wp2_with fail
  refine (compose_any s A n c w.heap.size l _ HL2.out hs2 hnc hc (by omega)).mono ?_
  rw [HK.out]
  rintro e w3 ⟨rfl, hb3⟩
  have hbb3 : Below w.heap.size w w3 := hbb2.trans (hb3.mono hbb2.size)
  have HL3 := Lib.hid (HL.out.below hbb3)
  have K3 := Blk.new' w3 23 #[.int .i64 kp, .int .i64 kd, .string kt] rfl
  go_wp2_with fail
  refine (refCompose_any s A n c w.heap.size l _ (HL3.out.alloc hbb3.size _) (by have := hbb3.size; simp; omega) (by omega) (by omega)).mono ?_
  rw [HK.out]
  rintro e w4 ⟨rfl, hb4⟩
  have K4 := (K3.below hb4 (by simp)).alloc (.cells #[.int .i64 kp, .int .i64 kd, .string kt] 23)
  have hbb4 : Below w.heap.size w w4 := (hbb3.alloc hbb3.size _).trans (hb4.mono (by have := hbb3.size; simp; omega))
  have c0 := K4.cell 0
  have c1 := K4.cell 1
  have c2 := K4.cell 2
  simp at c0 c1 c2
  go_wp2_with fail
  go_ret
  exact ⟨rfl, hbb4.alloc hbb4.size _⟩
end Go.Proofs.Ytocihnncfpmbnaa
