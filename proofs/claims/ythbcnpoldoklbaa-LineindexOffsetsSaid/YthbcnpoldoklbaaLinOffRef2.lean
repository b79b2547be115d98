/- The reference's Offset: as the program's. -/
import Derived.Test.YthbcnpoldoklbaaLinOffRef
import Derived.Test.YthbcnpoldoklbaaLinJoin
namespace Go.Proofs.Ythbcnpoldoklbaa
open Go.RowKit

theorem lnText_len {s : ByteArray} {k : Nat} (h : k ≤ (starts s).length) : (lnText s k).size = spanT s k - spanF s k ∧ spanF s k ≤ spanT s k ∧ spanT s k ≤ s.size := by
  have h1 := spanF_le s h
  refine ⟨?_, h1⟩
  unfold lnText
  rw [ByteArray.size_extract]
  omega

set_option maxRecDepth 100000 in
set_option maxHeartbeats 2000000 in
theorem refOffset_any (s : ByteArray) (l o : Int) (w : World) (hs : s.size ≤ 1048576) :
    Calls Try.prog 15 #[.string s, .agg #[.int .i64 l, .int .i64 o]] w
      fun e w' => e = .returned (.tuple #[.int .i64 (offV s l o), .int .i64 (offE s l o)]) ∧ Below w.heap.size w w' := by
  have hll := linesL_length s
  have hsl : (starts s).length ≤ s.size := startsTo_length s s.size
  obtain ⟨N, hN⟩ : ∃ N, (linesL s).length = N := ⟨_, rfl⟩
  rw [hN] at hll
  have hlA : N ≤ (starts s).length + 1 := by omega
  have hlB : (starts s).length + 1 ≤ N := by omega
  clear hll
  have HN := Lib.hid hN
  have K := Blk.new' w 28 #[.int .i64 l, .int .i64 o] rfl
  have hb0 : Below w.heap.size w (w.alloc (.cells #[.int .i64 l, .int .i64 o] 28)) := (Below.refl _ _).alloc (Nat.le_refl _) _
  have R0 : ¬ offOk s l o → Hid (offV s l o = 0 ∧ offE s l o = 2) := fun h => by
    refine Lib.hid ?_
    unfold offV offE
    rw [if_neg h, if_neg h]
    exact ⟨rfl, rfl⟩
  clear hN
  by_cases h0 : l < 0
  · have R := R0 (fun h => by have := h.1.1; omega)
    have d0 : decide (l < 0) = true := by simp [h0]
    clear R0
    go_enter Try.func15, Try.ntmps15
    go_wp2_with fail
    refine (refLines_any s _ (by omega)).mono ?_
    rintro e w1 ⟨A1, c1, rfl, R1, hb1⟩
    have J := K.below hb1 (by simp)
    have a0 := J.cell 0
    have a1 := J.cell 1
    simp at a0 a1
    go_wp2_with fail
    go_quiet (fail)
    go_wp2_with fail
    go_ret2
    exact ⟨by rw [R.out.1, R.out.2]; rfl, below_drewN (hb0.trans (hb1.mono (by simp))) _⟩
  have d0 : decide (l < 0) = false := by simp; omega
  by_cases h1 : (N : Int) ≤ l
  · have R := R0 (fun h => by have := h.1.2; omega)
    have d1 : decide ((N : Int) ≤ l) = true := by simp [h1]
    clear R0
    go_enter Try.func15, Try.ntmps15
    go_wp2_with fail
    refine (refLines_any s _ (by omega)).mono ?_
    rintro e w1 ⟨A1, c1, rfl, R1, hb1⟩
    rw [HN.out]
    have J := K.below hb1 (by simp)
    have a0 := J.cell 0
    have a1 := J.cell 1
    simp at a0 a1
    go_wp2_with fail
    go_quiet (fail)
    go_wp2_with fail
    go_ret2
    exact ⟨by rw [R.out.1, R.out.2]; rfl, below_drewN (hb0.trans (hb1.mono (by simp))) _⟩
  obtain ⟨k, rfl⟩ := Int.eq_ofNat_of_zero_le (Int.not_lt.1 h0)
  have d1 : decide ((N : Int) ≤ (k : Int)) = false := by simp; omega
  have d1' : decide (N ≤ k) = false := by simp; omega
  by_cases h2 : o < 0
  · have R := R0 (fun h => by have := h.2.1; omega)
    have d2 : decide (o < 0) = true := by simp [h2]
    clear R0
    go_enter Try.func15, Try.ntmps15
    go_wp2_with fail
    refine (refLines_any s _ (by omega)).mono ?_
    rintro e w1 ⟨A1, c1, rfl, R1, hb1⟩
    rw [HN.out]
    have J := K.below hb1 (by simp)
    have a0 := J.cell 0
    have a1 := J.cell 1
    simp at a0 a1
    go_wp2_with fail
    go_quiet (fail)
    go_wp2_with fail
    go_ret2
    exact ⟨by rw [R.out.1, R.out.2]; rfl, below_drewN (hb0.trans (hb1.mono (by simp))) _⟩
  have d2 : decide (o < 0) = false := by simp; omega
  have hkn : k ≤ (starts s).length := by omega
  have hkI : (k : Int) < (N : Int) := by omega
  obtain ⟨z1, z2, z3⟩ := lnText_len hkn
  have HLA := Lib.hid (linesL_at hkn)
  obtain ⟨x, hx⟩ : ∃ x, lnText s k = x := ⟨_, rfl⟩
  rw [hx] at z1 HLA
  have HX := Lib.hid hx
  clear hx
  by_cases h3 : (x.size : Int) < o
  · have R := R0 (fun h => by have := h.2.2; rw [Int.toNat_natCast] at this; omega)
    have d3 : decide ((x.size : Int) < o) = true := by simp [h3]
    clear R0 z1
    go_enter Try.func15, Try.ntmps15
    go_wp2_with fail
    refine (refLines_any s _ (by omega)).mono ?_
    rintro e w1 ⟨A1, c1, rfl, R1, hb1⟩
    rw [HN.out] at R1 ⊢
    obtain ⟨b, off, rfl, hbb, hc⟩ := R1.str_at HLA.out
    have J := K.below hb1 (by simp)
    have a0 := J.cell 0
    have a1 := J.cell 1
    simp at a0 a1
    clear R1
    go_wp2_with fail
    go_quiet (fail)
    go_wp2_with fail
    go_ret2
    exact ⟨by rw [R.out.1, R.out.2]; rfl, below_drewN (hb0.trans (hb1.mono (by simp))) _⟩
  have d3 : decide ((x.size : Int) < o) = false := by simp; omega
  have hok : offOk s k o := by
    refine ⟨⟨by omega, by omega⟩, by omega, ?_⟩
    rw [Int.toNat_natCast]
    omega
  have R := Lib.hid (show offV s k o = (spanF s k : Int) + o ∧ offE s k o = 0 by unfold offV offE; rw [if_pos hok, if_pos hok, Int.toNat_natCast]; exact ⟨rfl, rfl⟩)
  have z4 : x.size ≤ s.size := by omega
  clear R0 hok z1
  go_enter Try.func15, Try.ntmps15
  go_wp2_with fail
  refine (refLines_any s _ (by omega)).mono ?_
  rintro e w1 ⟨A1, c1, rfl, R1, hb1⟩
  rw [HN.out] at R1 ⊢
  have HR1 := Lib.hid R1
  obtain ⟨b, off, rfl, hbb, hc⟩ := R1.str_at HLA.out
  have J := K.below hb1 (by simp)
  have a0 := J.cell 0
  have a1 := J.cell 1
  simp at a0 a1
  clear R1
  go_wp2_with fail
  go_quiet (fail)
  go_wp2_with fail
  clear hc
  go_loopw [7, 8] (fun v a wr => ∃ i : Nat, i ≤ k ∧ a = .int .i64 i ∧ v = .int .i64 (o + spanF s i) ∧ ∃ q, wr = w1.drewN q) (fun _ a _ => k - (intOf a).toNat)
  case atStart => exact ⟨0, Nat.zero_le _, rfl, by simp [spanF], _, rfl⟩
  case round =>
    obtain ⟨i, hi, rfl, rfl, q, rfl⟩ := hrel
    by_cases hlt : i < k
    · have hin : i < (starts s).length := by omega
      obtain ⟨y1, y2, y3⟩ := lnText_len (s := s) (k := i) (by omega)
      have HY := Lib.hid (linesL_at (s := s) (k := i) (by omega))
      have hsn := (span_next hin).1
      obtain ⟨b', off', e1, hbb', hc⟩ := HR1.out.str_at HY.out
      injection e1 with e1
      injection e1 with e1 e2
      subst e1; subst e2
      have hiI : (i : Int) < (N : Int) := by omega
      generalize lnText s i = y at *
      have v1 : IntKind.i64.wrap (o + (spanF s i : Int) + (y.size : Int)) = o + (spanF s i : Int) + y.size := IntWalk.i64_in _ (by omega)
      have v2 : IntKind.i64.wrap (o + (spanF s i : Int) + (y.size : Int) + 1) = o + (spanF s i : Int) + y.size + 1 := IntWalk.i64_in _ (by omega)
      have HS := Lib.hid hsn
      clear hsn
      go_wp2_with fail
      go_roundw
      case rel => exact ⟨i + 1, by omega, by go_num, by rw [HS.out]; congr 1; omega, q, rfl⟩
      case measure => simp [intOf]; omega
    · have hik : i = k := by omega
      subst hik
      go_wp2_with fail
      go_ret2
      exact ⟨by rw [R.out.1, R.out.2, Int.add_comm]; rfl, below_drewN (hb0.trans (hb1.mono (by simp))) _⟩
end Go.Proofs.Ythbcnpoldoklbaa
