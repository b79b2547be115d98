/- TexteditApplyMatchesReference returns true for every input within the form's reach. -/
import Derived.Test.YtocihnncfpmbnaaEdAwake
import Derived.Test.YtocihnncfpmbnaaFew
import Derived.Test.YtocihnncfpmbnaaRefEdit
namespace Go.Proofs.Ytocihnncfpmbnaa
open Go.RowKit

set_option maxRecDepth 100000 in
set_option maxHeartbeats 1000000 in
theorem lawEdApply_any (s : ByteArray) (a b : Int) (t : ByteArray) (w : World) (hs : s.size ≤ maxLen) (ht : t.size ≤ reachBytes) :
    Calls Try.prog 3 #[.string s, .agg #[.int .i64 a, .int .i64 b, .string t]] w fun e w' => e = .returned (.bool true) ∧ Below w.heap.size w w' := by
  have K := Blk.new' w 23 #[.int .i64 a, .int .i64 b, .string t] rfl
  have hb0 : Below w.heap.size w (w.alloc (.cells #[.int .i64 a, .int .i64 b, .string t] 23)) := (Below.refl _ _).alloc (Nat.le_refl _) _
  have E := run_eql_ed
  have ES := Ed.eqb_self
  go_enter Try.func3, Try.ntmps3
  go_wp2_with fail
  refine (awake_any _).mono ?_
  rintro e w1 ⟨rfl, hb1⟩
  simp only [World.size_alloc] at hb1
  have K1 := K.below hb1 (by omega)
  have hs1 := hb1.size
  have hbb : Below w.heap.size w w1 := hb0.trans (hb1.mono (by omega))
  simp only [World.size_alloc] at hs1
  have g0 := K1.cell 0
  have g1 := K1.cell 1
  have g2 := K1.cell 2
  simp at g0 g1 g2
  clear hb0 K hb1
  go_wp2_with fail
  have KL := Reads.of_blk (B := w1.heap.size + 1) (xs := eds [⟨a, b, t⟩]) (n := 1) (size := 3) (Blk.new' w1 23 #[.int .i64 a, .int .i64 b, .string t] rfl) (by omega) rfl rfl
  refine (few_any s (some ⟨w1.heap.size, 0, none⟩) 1 1 (w1.heap.size + 1) [⟨a, b, t⟩] _ KL (by unfold maxLen; omega) hs (by simpa using ht)).mono ?_
  rintro e w2 ⟨bo, rfl, hok, hb2⟩
  have K2 := (K1.alloc (.cells #[.int .i64 a, .int .i64 b, .string t] 23)).below hb2 (by simp; omega)
  have hbb2 : Below w.heap.size w w2 := (hbb.alloc hbb.size _).trans (hb2.mono (by simp; omega))
  have hs2 := hb2.size
  simp only [World.size_alloc] at hs2
  clear g0 g1 g2 hb2 KL
  cases bo with
  | false =>
    go_wp2_with fail
    go_ret
    exact ⟨rfl, hbb2⟩
  | true =>
  obtain ⟨q1, _, q3⟩ := hok rfl
  have q4 : t.size ≤ 400 := by simpa [sumIns] using q3
  have g0 := K2.cell 0
  have g1 := K2.cell 1
  have g2 := K2.cell 2
  simp at g0 g1 g2
  clear hok q3
  go_wp2_with fail
  refine (apply_any s a b t _ (by omega)).mono ?_
  rintro e w3 ⟨rfl, hb3⟩
  have K3 := K2.below hb3 (by omega)
  have hbb3 : Below w.heap.size w w3 := hbb2.trans (hb3.mono hbb2.size)
  have c0 := K3.cell 0
  have c1 := K3.cell 1
  have c2 := K3.cell 2
  simp at c0 c1 c2
  go_wp2_with fail
  refine (refApply_any s a b t _ (by omega)).mono ?_
  rintro e w4 ⟨rfl, hb4⟩
  go_wp2_with fail
  go_ret
  exact ⟨rfl, hbb3.trans (hb4.mono hbb3.size)⟩
end Go.Proofs.Ytocihnncfpmbnaa
