/- awake returns true. -/
import Derived.Test.YthbcnpoldoklbaaIndexOff
namespace Go.Proofs.Ythbcnpoldoklbaa
open Go.RowKit

local notation "exS" => (ByteArray.mk #[97, 98, 10, 10, 99, 100])
theorem exP1 : posL exS 2 = 0 ∧ posC exS 2 = 2 ∧ posE exS 2 = 0 := by decide +kernel
theorem exP2 : posL exS 3 = 1 ∧ posC exS 3 = 0 ∧ posE exS 3 = 0 := by decide +kernel
theorem exO1 : offV exS 2 2 = 6 ∧ offE exS 2 2 = 0 := by decide +kernel
theorem exO2 : offE exS 1 1 = 2 := by decide +kernel
theorem exLen : (starts exS).length = 2 := by decide +kernel
theorem exO2v : offV exS 1 1 = 0 := by decide +kernel

set_option maxRecDepth 100000 in
set_option maxHeartbeats 1000000 in
theorem awake_any (w : World) : Calls Try.prog 10 #[] w fun e w' => e = .returned (.bool true) ∧ Below w.heap.size w w' := by
  go_enter Try.func10, Try.ntmps10
  go_wp2_with fail
  refine (new_any exS _ (by decide)).mono ?_
  rintro e w1 ⟨A, n, c, rfl, hn, R1, hb1⟩
  have hn2 : n = 2 := by rw [← R1.nats_len]; exact exLen
  subst hn2
  have HR := Lib.hid R1
  have K := Blk.new' w1 25 #[.string exS, .slice A 2 c] rfl
  have hb1' := hb1.alloc hb1.size (.cells #[.string exS, .slice A 2 c] 25)
  have hs1 := hb1.size
  clear R1
  go_wp2_with fail
  refine (position_any exS A 2 c w1.heap.size 2 _ (HR.out.alloc (Nat.le_refl _) _) (by simp) (by omega) (by decide)).mono ?_
  rw [exP1.1, exP1.2.1, exP1.2.2]
  rintro e w2 ⟨rfl, hb2⟩
  have K2 := (K.below hb2 (by simp)).alloc (.cells #[.int .i64 0, .int .i64 2] 28)
  have P2 := Blk.new' w2 28 #[.int .i64 0, .int .i64 2] rfl
  have hbb2 : Below w.heap.size w w2 := hb1'.trans (hb2.mono (by simp; omega))
  have hs2 := hb2.size
  simp only [World.size_alloc] at hs2
  have R2 := Lib.hid ((HR.out.alloc (Nat.le_refl _) (.cells #[.string exS, .slice A 2 c] 25)).below (hb2.mono (by simp)))
  have a0 := K2.cell 0
  have a1 := K2.cell 1
  simp at a0 a1
  go_wp2_with fail
  refine (position_any exS A 2 c w1.heap.size 3 _ (R2.out.alloc (by omega) _) (by simp; omega) (by omega) (by decide)).mono ?_
  rw [exP2.1, exP2.2.1, exP2.2.2]
  rintro e w3 ⟨rfl, hb3⟩
  have K3 := (K2.below hb3 (by simp; omega)).alloc (.cells #[.int .i64 1, .int .i64 0] 28)
  have P3 := (P2.below hb3 (by simp)).alloc (.cells #[.int .i64 1, .int .i64 0] 28)
  have Q3 := Blk.new' w3 28 #[.int .i64 1, .int .i64 0] rfl
  have hbb3 : Below w.heap.size w w3 := (hbb2.alloc hbb2.size _).trans (hb3.mono (by simp; omega))
  have hbb3' := hbb3.alloc hbb3.size (.cells #[.int .i64 1, .int .i64 0] 28)
  have hs3 := hb3.size
  simp only [World.size_alloc] at hs3
  have R3 := Lib.hid (((R2.out.alloc (by omega) (.cells #[.int .i64 0, .int .i64 2] 28)).below (hb3.mono (by simp; omega))).alloc (by omega) (.cells #[.int .i64 1, .int .i64 0] 28))
  clear a0 a1
  have a0 := K3.cell 0
  have a1 := K3.cell 1
  simp at a0 a1
  go_wp2_with fail
  refine (offset_any exS A 2 c w1.heap.size 2 2 _ R3.out (by simp; omega) (by omega) (by decide)).mono ?_
  rw [exO1.1, exO1.2]
  rintro e w4 ⟨rfl, hb4⟩
  have K4 := K3.below hb4 (by simp; omega)
  have P4 := P3.below hb4 (by simp; omega)
  have Q4 := Q3.below hb4 (by simp)
  have hbb4 : Below w.heap.size w w4 := hbb3'.trans (hb4.mono (by simp; omega))
  have hs4 := hb4.size
  simp only [World.size_alloc] at hs4
  have R4 := Lib.hid (R3.out.below (hb4.mono (by simp; omega)))
  clear a0 a1
  have a0 := K4.cell 0
  have a1 := K4.cell 1
  simp at a0 a1
  go_wp2_with fail
  refine (offset_any exS A 2 c w1.heap.size 1 1 _ R4.out (by omega) (by omega) (by decide)).mono ?_
  rw [exO2, exO2v]
  rintro e w5 ⟨rfl, hb5⟩
  have K5 := (K4.below hb5 (by omega)).alloc (.cells #[.string ⟨#[]⟩, .slice none 0 0] 25)
  have P5 := (P4.below hb5 (by omega)).alloc (.cells #[.string ⟨#[]⟩, .slice none 0 0] 25)
  have Q5 := (Q4.below hb5 (by omega)).alloc (.cells #[.string ⟨#[]⟩, .slice none 0 0] 25)
  have Z5 := Blk.new' w5 25 #[.string ⟨#[]⟩, .slice none 0 0] rfl
  have hbb5 : Below w.heap.size w w5 := hbb4.trans (hb5.mono (by omega))
  have hs5 := hb5.size
  clear a0 a1
  have a0 := K5.cell 0
  have a1 := K5.cell 1
  simp at a0 a1
  go_wp2_with fail
  refine (lines_any exS A 2 c _ (by omega)).mono ?_
  rintro e w6 ⟨rfl, hb6⟩
  have P6 := P5.below hb6 (by simp; omega)
  have Q6 := Q5.below hb6 (by simp; omega)
  have Z6 := Z5.below hb6 (by simp)
  have hbb6 : Below w.heap.size w w6 := (hbb5.alloc hbb5.size _).trans (hb6.mono (by simp; omega))
  have p0 := P6.cell 0
  have p1 := P6.cell 1
  have q0 := Q6.cell 0
  have q1 := Q6.cell 1
  have z0 := Z6.cell 0
  have z1 := Z6.cell 1
  simp at p0 p1 q0 q1 z0 z1
  clear a0 a1
  go_wp2_with fail
  refine (lines_any _ none 0 0 _ (by omega)).mono ?_
  rintro e w7 ⟨rfl, hb7⟩
  go_wp2_with fail
  go_ret
  exact ⟨rfl, hbb6.trans (hb7.mono hbb6.size)⟩
end Go.Proofs.Ythbcnpoldoklbaa
