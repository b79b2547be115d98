/- awake returns true. -/
import Derived.Test.YtnechjedhpcffaaPqLaw0
namespace Go.Proofs.Ytnechjedhpcffaa
open Go.RowKit

set_option maxRecDepth 100000 in
set_option maxHeartbeats 2000000 in
theorem awake_any (w : World) : Calls Try.prog 8 #[] w fun e w' => e = .returned (.bool true) ∧ Below w.heap.size w w' := by
  go_enter Try.func8, Try.ntmps8
  go_wp2_with fail
  refine (newq_any w).mono ?_
  rintro e w1 ⟨rfl, ⟨F1, h1⟩, hb1⟩
  have H1 := Lib.hid h1
  have hs1 := hb1.size
  clear h1
  go_wp2_with fail
  refine (pushq_any 3 7 H1.out (by omega) (by omega)).mono ?_
  rintro e w2 ⟨rfl, F2, h2, s2⟩
  have H2 : Hid (QB w2 w.heap.size (w.heap.size + 1) F2 [⟨3, 7, 0, 0⟩] 1 1) := h2
  have hb2 := hb1.trans (s2.below hs1)
  have hs2 := hb2.size
  clear h2 s2
  go_wp2_with fail
  refine (pushq_any 1 0 H2.out (by omega) (by omega)).mono ?_
  rintro e w3 ⟨rfl, F3, h3, s3⟩
  have H3 : Hid (QB w3 w.heap.size (w.heap.size + 1) F3 [⟨3, 7, 0, 0⟩, ⟨1, 0, 1, 1⟩] 2 2) := h3
  have hb3 := hb2.trans (s3.below hs2)
  have hs3 := hb3.size
  clear h3 s3
  go_wp2_with fail
  refine (pushq_any 2 0 H3.out (by omega) (by omega)).mono ?_
  rintro e w4 ⟨rfl, F4, h4, s4⟩
  have H4 : Hid (QB w4 w.heap.size (w.heap.size + 1) F4 [⟨3, 7, 0, 0⟩, ⟨1, 0, 1, 1⟩, ⟨2, 0, 2, 2⟩] 3 3) := h4
  have hb4 := hb3.trans (s4.below hs3)
  have hs4 := hb4.size
  clear h4 s4
  go_wp2_with fail
  refine (popq_any H4.out (show IsMin ⟨1, 0, 1, 1⟩ [⟨3, 7, 0, 0⟩, ⟨1, 0, 1, 1⟩, ⟨2, 0, 2, 2⟩] from ⟨by simp, by simp [bf, lt]⟩) (List.Perm.swap _ _ ([⟨2, 0, 2, 2⟩] : List Ent))).mono ?_
  rintro e w5 ⟨rfl, F5, h5, s5⟩
  have H5 : Hid (QB w5 w.heap.size (w.heap.size + 1) F5 [⟨3, 7, 0, 0⟩, ⟨2, 0, 2, 2⟩] 3 3) := h5
  have hb5 := hb4.trans (s5.below hs4)
  have hs5 := hb5.size
  clear h5 s5
  have A5 := H5.out.new 27 #[.int .i64 1, .int .i64 0]
  have HA5 := Lib.hid (H5.out.alloc (.cells #[.int .i64 1, .int .i64 0] 27))
  have hc5 : Below w.heap.size w (w5.alloc (.cells #[.int .i64 1, .int .i64 0] 27)) := hb5.alloc hs5 _
  have ht5 := hc5.size
  go_wp2_with fail
  refine (updq_any (hd := 0) 0 8 HA5.out (by decide) (by omega) (List.Perm.refl _) rfl).mono ?_
  rintro e w6 ⟨rfl, F6, h6, s6⟩
  have H6 : Hid (QB w6 w.heap.size (w.heap.size + 1) F6 [⟨0, 8, 0, 3⟩, ⟨2, 0, 2, 2⟩] 3 4) := h6
  have hb6 := hc5.trans (s6.below ht5)
  have hs6 := hb6.size
  have A6 := A5.step s6
  clear h6 s6
  go_wp2_with fail
  refine (popq_any H6.out (show IsMin ⟨0, 8, 0, 3⟩ [⟨0, 8, 0, 3⟩, ⟨2, 0, 2, 2⟩] from ⟨by simp, by simp [bf, lt]⟩) (List.Perm.refl _)).mono ?_
  rintro e w7 ⟨rfl, F7, h7, s7⟩
  have H7 : Hid (QB w7 w.heap.size (w.heap.size + 1) F7 [⟨2, 0, 2, 2⟩] 3 4) := h7
  have hb7 := hb6.trans (s7.below hs6)
  have hs7 := hb7.size
  have A7 := A6.step s7
  clear h7 s7
  have B7 := H7.out.new 27 #[.int .i64 0, .int .i64 8]
  have HA7 := Lib.hid (H7.out.alloc (.cells #[.int .i64 0, .int .i64 8] 27))
  have hc7 : Below w.heap.size w (w7.alloc (.cells #[.int .i64 0, .int .i64 8] 27)) := hb7.alloc hs7 _
  have ht7 := hc7.size
  have A7' := A7.below ((Below.refl _ _).alloc (Nat.le_refl _) (.cells #[.int .i64 0, .int .i64 8] 27))
  go_wp2_with fail
  refine (popq_any HA7.out (show IsMin ⟨2, 0, 2, 2⟩ [⟨2, 0, 2, 2⟩] from ⟨by simp, by simp [bf, lt]⟩) (List.Perm.refl _)).mono ?_
  rintro e w8 ⟨rfl, F8, h8, s8⟩
  have H8 : Hid (QB w8 w.heap.size (w.heap.size + 1) F8 [] 3 4) := h8
  have hb8 := hc7.trans (s8.below ht7)
  have hs8 := hb8.size
  have A8 := A7'.step s8
  have B8 := B7.step s8
  clear h8 s8
  have C8 := H8.out.new 27 #[.int .i64 2, .int .i64 0]
  have HA8 := Lib.hid (H8.out.alloc (.cells #[.int .i64 2, .int .i64 0] 27))
  have hc8 : Below w.heap.size w (w8.alloc (.cells #[.int .i64 2, .int .i64 0] 27)) := hb8.alloc hs8 _
  have ht8 := hc8.size
  have A8' := A8.below ((Below.refl _ _).alloc (Nat.le_refl _) (.cells #[.int .i64 2, .int .i64 0] 27))
  have B8' := B8.below ((Below.refl _ _).alloc (Nat.le_refl _) (.cells #[.int .i64 2, .int .i64 0] 27))
  go_wp2_with fail
  refine (popq_none HA8.out).mono ?_
  rintro e w9 ⟨rfl, hb9⟩
  have H9 := Lib.hid ((HA8.out.below hb9).alloc (.cells #[.int .i64 0, .int .i64 0] 27))
  have a9 := ((A8'.below hb9).below ((Below.refl _ _).alloc (Nat.le_refl _) (.cells #[.int .i64 0, .int .i64 0] 27))).1.cell 0
  have b9 := ((B8'.below hb9).below ((Below.refl _ _).alloc (Nat.le_refl _) (.cells #[.int .i64 0, .int .i64 0] 27))).1.cell 1
  have c9 := ((C8.below hb9).below ((Below.refl _ _).alloc (Nat.le_refl _) (.cells #[.int .i64 0, .int .i64 0] 27))).1.cell 0
  simp at a9 b9 c9
  have hb10 : Below w.heap.size w (w9.alloc (.cells #[.int .i64 0, .int .i64 0] 27)) := (hc8.trans (hb9.mono ht8)).alloc (Nat.le_trans ht8 hb9.size) _
  have hs10 := hb10.size
  go_wp2_with fail
  refine (lenq_any H9.out).mono ?_
  rintro e w10 ⟨rfl, hb11⟩
  go_wp2_with fail
  go_ret
  exact ⟨rfl, hb10.trans (hb11.mono hs10)⟩
end Go.Proofs.Ytnechjedhpcffaa
