/- TexteditRebaseMatchesReference returns true for every input within the form's reach. -/
import Derived.Test.YtocihnncfpmbnaaEdAwake
import Derived.Test.YtocihnncfpmbnaaFew
namespace Go.Proofs.Ytocihnncfpmbnaa
open Go.RowKit

set_option maxRecDepth 100000 in
set_option maxHeartbeats 1000000 in
theorem lawEdReb_any (a b c d : Int) (t u : ByteArray) (w : World) (ht : t.size ≤ reachBytes) (hu : u.size ≤ reachBytes) :
    Calls Try.prog 8 #[.agg #[.int .i64 a, .int .i64 b, .string t], .agg #[.int .i64 c, .int .i64 d, .string u]] w fun e w' => e = .returned (.bool true) ∧ Below w.heap.size w w' := by
  have hR : reachBytes = 140737488351232 := rfl
  obtain ⟨W0, hW0⟩ : ∃ W, W = (w.alloc (.cells #[.int .i64 a, .int .i64 b, .string t] 23)).alloc (.cells #[.int .i64 c, .int .i64 d, .string u] 23) := ⟨_, rfl⟩
  have hsW : W0.heap.size = w.heap.size + 1 + 1 := by rw [hW0]; simp
  have KA : Blk W0 w.heap.size 23 #[.int .i64 a, .int .i64 b, .string t] := by rw [hW0]; exact (Blk.new' _ _ _ rfl).alloc _
  have KB : Blk W0 (w.heap.size + 1) 23 #[.int .i64 c, .int .i64 d, .string u] := by rw [hW0]; exact Blk.new' _ _ _ (by simp)
  have hbW : Below w.heap.size w W0 := by rw [hW0]; exact ((Below.refl _ _).alloc (Nat.le_refl _) _).alloc (by simp) _
  have WAIT := Lib.hid hW0
  obtain ⟨⟨kp, kd, kt⟩, hk⟩ : ∃ e, rebE ⟨a, b, t⟩ ⟨c, d, u⟩ = e := ⟨_, rfl⟩
  have HK := Lib.hid hk
  have E := run_eql_ed
  have ES := Ed.eqb_self
  clear hW0 hk
  go_enter Try.func8, Try.ntmps8
  go_wp2_with fail
  rw [← WAIT.out]
  refine (awake_any _).mono ?_
  rintro e w1 ⟨rfl, hb1⟩
  have A1 := KA.below hb1 (by omega)
  have B1 := KB.below hb1 (by omega)
  have hbb1 : Below w.heap.size w w1 := hbW.trans (hb1.mono (by omega))
  have hs1 := hb1.size
  have a0 := A1.cell 0
  have a1 := A1.cell 1
  have a2 := A1.cell 2
  have b0 := B1.cell 0
  have b1 := B1.cell 1
  have b2 := B1.cell 2
  simp at a0 a1 a2 b0 b1 b2
  clear hb1
  go_wp2_with fail
  refine (rebase_any a b c d t u _ (by omega)).mono ?_
  rw [HK.out]
  rintro e w2 ⟨rfl, hb2⟩
  have A2 := (A1.below hb2 (by omega)).alloc (.cells #[.int .i64 kp, .int .i64 kd, .string kt] 23)
  have B2 := (B1.below hb2 (by omega)).alloc (.cells #[.int .i64 kp, .int .i64 kd, .string kt] 23)
  have K2 := Blk.new' w2 23 #[.int .i64 kp, .int .i64 kd, .string kt] rfl
  have hbb2 : Below w.heap.size w w2 := hbb1.trans (hb2.mono (by omega))
  have hs2 := hbb2.size
  clear a0 a1 a2 b0 b1 b2 hb2
  have a0 := A2.cell 0
  have a1 := A2.cell 1
  have a2 := A2.cell 2
  have b0 := B2.cell 0
  have b1 := B2.cell 1
  have b2 := B2.cell 2
  simp at a0 a1 a2 b0 b1 b2
  go_wp2_with fail
  refine (refRebase_any a b c d t u _ (by omega)).mono ?_
  rw [HK.out]
  rintro e w3 ⟨rfl, hb3⟩
  have K3 := (K2.below hb3 (by simp)).alloc (.cells #[.int .i64 kp, .int .i64 kd, .string kt] 23)
  have hbb3 : Below w.heap.size w w3 := (hbb2.alloc hs2 _).trans (hb3.mono (by simp; omega))
  have c0 := K3.cell 0
  have c1 := K3.cell 1
  have c2 := K3.cell 2
  simp at c0 c1 c2
  clear a0 a1 a2 b0 b1 b2
  go_wp2_with fail
  go_ret
  exact ⟨rfl, hbb3.alloc hbb3.size _⟩
end Go.Proofs.Ytocihnncfpmbnaa
