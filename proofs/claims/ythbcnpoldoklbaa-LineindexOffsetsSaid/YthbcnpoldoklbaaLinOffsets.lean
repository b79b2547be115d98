/- LineindexOffsets returns true for every text, position and number. -/
import Derived.Test.YthbcnpoldoklbaaLinSame
import Derived.Test.YthbcnpoldoklbaaLinOffRef2
namespace Go.Proofs.Ythbcnpoldoklbaa
open Go.RowKit

theorem toList_eqb (a : ByteArray) : (a.toList == a.toList) = true := by simp
set_option maxRecDepth 100000 in
set_option maxHeartbeats 1000000 in
theorem lawOffsets_any (s : ByteArray) (l o m : Int) (w : World) : Calls Try.prog 6 #[.string s, .agg #[.int .i64 l, .int .i64 o], .int .i64 m] w fun e w' => e = .returned (.bool true) ∧ Below w.heap.size w w' := by
  have P0 := Blk.new' w 28 #[.int .i64 l, .int .i64 o] rfl
  have hb0 : Below w.heap.size w (w.alloc (.cells #[.int .i64 l, .int .i64 o] 28)) := (Below.refl _ _).alloc (Nat.le_refl _) _
  by_cases hs : s.size ≤ 300
  case neg =>
    have d0 : decide ((300 : Int) < s.size) = true := by simp; omega
    have d1 : decide (300 < s.size) = true := by simp; omega
    go_enter Try.func6, Try.ntmps6
    go_wp2_with fail
    refine (awake_any _).mono ?_
    rintro e w1 ⟨rfl, hb1⟩
    go_wp2_with fail
    go_ret
    exact ⟨rfl, hb0.trans (hb1.mono (by simp))⟩
  have d0 : decide ((300 : Int) < s.size) = false := by simp; omega
  have d1 : decide (300 < s.size) = false := by simp; omega
  have TE := toList_eqb (lnT s m)
  have PE : ((posL s m == posL s m) && (posC s m == posC s m)) = true := by simp
  go_enter Try.func6, Try.ntmps6
  go_wp2_with fail
  refine (new_any s _ (by first | omega | (simp only [World.size_alloc]; omega))).mono ?_
  rintro e w1 ⟨A, n, c, rfl, hn, R1, hb1⟩
  have hnl : n ≤ 300 := by
    rw [← R1.nats_len]
    have := startsTo_length s s.size
    unfold starts
    omega
  have HR1 := Lib.hid R1
  simp only [World.size_alloc] at hb1
  have hs1 := hb1.size
  try simp only [World.size_alloc] at hs1
  have P1 := (P0.below hb1 (by first | omega | (simp only [World.size_alloc]; omega))).alloc (.cells #[.string s, .slice A n c] 25)
  have K1 := Blk.new' w1 25 #[.string s, .slice A n c] rfl
  have hbb1 : Below w.heap.size w (w1.alloc (.cells #[.string s, .slice A n c] 25)) := (hb0.trans (hb1.mono (by first | omega | (simp only [World.size_alloc]; omega)))).alloc (by first | omega | (simp only [World.size_alloc]; omega)) _
  have R2 := Lib.hid (HR1.out.alloc (Nat.le_refl _) (.cells #[.string s, .slice A n c] 25))
  have p0 := P1.cell 0
  have p1 := P1.cell 1
  simp at p0 p1
  clear R1 HR1 hb0 hb1 P0
  go_wp2_with fail
  refine (offset_any s A n c w1.heap.size l o _ R2.out (by simp) (by first | omega | (simp only [World.size_alloc]; omega)) (by first | omega | (simp only [World.size_alloc]; omega))).mono ?_
  rintro e w2 ⟨rfl, hb2⟩
  simp only [World.size_alloc] at hb2
  have hs2 := hb2.size
  try simp only [World.size_alloc] at hs2
  have P2 := P1.below hb2 (by first | omega | (simp only [World.size_alloc]; omega))
  have K2 := K1.below hb2 (by first | omega | (simp only [World.size_alloc]; omega))
  have hbb2 := hbb1.trans (hb2.mono (by first | omega | (simp only [World.size_alloc]; omega)))
  have R3 := Lib.hid (R2.out.below (hb2.mono (by first | omega | (simp only [World.size_alloc]; omega))))
  clear p0 p1
  have p0 := P2.cell 0
  have p1 := P2.cell 1
  have k0 := K2.cell 0
  have k1 := K2.cell 1
  simp at p0 p1 k0 k1
  clear P1 K1 hbb1 hb2 R2
  go_wp2_with fail
  refine (refOffset_any s l o _ (by first | omega | (simp only [World.size_alloc]; omega))).mono ?_
  rintro e w3 ⟨rfl, hb3⟩
  have hs3 := hb3.size
  try simp only [World.size_alloc] at hs3
  have K3 := K2.below hb3 (by first | omega | (simp only [World.size_alloc]; omega))
  have hbb3 := hbb2.trans (hb3.mono (by first | omega | (simp only [World.size_alloc]; omega)))
  have R4 := Lib.hid (R3.out.below (hb3.mono (by first | omega | (simp only [World.size_alloc]; omega))))
  clear p0 p1 k0 k1
  have k0 := K3.cell 0
  have k1 := K3.cell 1
  simp at k0 k1
  clear K2 P2 hbb2 hb3 R3
  go_wp2_with fail
  refine (line_any s A n c w1.heap.size m _ R4.out (by first | omega | (simp only [World.size_alloc]; omega)) (by first | omega | (simp only [World.size_alloc]; omega)) (by first | omega | (simp only [World.size_alloc]; omega))).mono ?_
  rintro e w4 ⟨rfl, hb4⟩
  have hs4 := hb4.size
  try simp only [World.size_alloc] at hs4
  have K4 := K3.below hb4 (by first | omega | (simp only [World.size_alloc]; omega))
  have hbb4 := hbb3.trans (hb4.mono (by first | omega | (simp only [World.size_alloc]; omega)))
  have R5 := Lib.hid (R4.out.below (hb4.mono (by first | omega | (simp only [World.size_alloc]; omega))))
  clear k0 k1 K3 hbb3 hb4 R4
  go_wp2_with fail
  refine (refLine_any s m _ (by first | omega | (simp only [World.size_alloc]; omega))).mono ?_
  rintro e w5 ⟨rfl, hb5⟩
  have hs5 := hb5.size
  try simp only [World.size_alloc] at hs5
  have K5 := K4.below hb5 (by first | omega | (simp only [World.size_alloc]; omega))
  have hbb5 := hbb4.trans (hb5.mono (by first | omega | (simp only [World.size_alloc]; omega)))
  have R6 := Lib.hid (R5.out.below (hb5.mono (by first | omega | (simp only [World.size_alloc]; omega))))
  have k0 := K5.cell 0
  have k1 := K5.cell 1
  simp at k0 k1
  clear K4 hbb4 hb5 R5
  go_wp2_with fail
  refine (position_any s A n c w1.heap.size m _ R6.out (by first | omega | (simp only [World.size_alloc]; omega)) (by first | omega | (simp only [World.size_alloc]; omega)) (by first | omega | (simp only [World.size_alloc]; omega))).mono ?_
  rintro e w6 ⟨rfl, hb6⟩
  have hs6 := hb6.size
  try simp only [World.size_alloc] at hs6
  have hbb6 := (hbb5.trans (hb6.mono (by first | omega | (simp only [World.size_alloc]; omega)))).alloc (show w.heap.size ≤ w6.heap.size by omega) (.cells #[.int .i64 (posL s m), .int .i64 (posC s m)] 28)
  have Q6 := Blk.new' w6 28 #[.int .i64 (posL s m), .int .i64 (posC s m)] rfl
  clear k0 k1 K5 hbb5 hb6 R6
  go_wp2_with fail
  refine (refPosition_any s m _ (by first | omega | (simp only [World.size_alloc]; omega))).mono ?_
  rintro e w7 ⟨rfl, hb7⟩
  simp only [World.size_alloc] at hb7
  have hs7 := hb7.size
  try simp only [World.size_alloc] at hs7
  have hbb7 := (hbb6.trans (hb7.mono (by first | omega | (simp only [World.size_alloc]; omega)))).alloc (show w.heap.size ≤ w7.heap.size by omega) (.cells #[.int .i64 (posL s m), .int .i64 (posC s m)] 28)
  have Q7 := (Q6.below hb7 (by first | omega | (simp only [World.size_alloc]; omega))).alloc (.cells #[.int .i64 (posL s m), .int .i64 (posC s m)] 28)
  have Q8 := Blk.new' w7 28 #[.int .i64 (posL s m), .int .i64 (posC s m)] rfl
  clear hb7 hbb6 Q6
  go_wp2_with fail
  refine (awake_any _).mono ?_
  rintro e w8 ⟨rfl, hb8⟩
  simp only [World.size_alloc] at hb8
  have hs8 := hb8.size
  try simp only [World.size_alloc] at hs8
  have hbb8 := hbb7.trans (hb8.mono (by first | omega | (simp only [World.size_alloc]; omega)))
  have G1 := Q7.below hb8 (by first | omega | (simp only [World.size_alloc]; omega))
  have G2 := Q8.below hb8 (by first | omega | (simp only [World.size_alloc]; omega))
  have q0 := G1.cell 0
  have q1 := G1.cell 1
  have r0 := G2.cell 0
  have r1 := G2.cell 1
  simp at q0 q1 r0 r1
  go_wp2_with fail
  go_ret
  exact ⟨rfl, hbb8⟩
end Go.Proofs.Ythbcnpoldoklbaa
