/- The reference's Invert: as textedit's. -/
import Derived.Test.YtepohmklbfkdfaaRefEdit
import Derived.Test.YtepohmklbfkdfaaInvert
namespace Go.Proofs.Ytepohmklbfkdfaa
open Go.RowKit

set_option maxHeartbeats 1000000 in
theorem refInvert_any (s : ByteArray) (a b : Int) (t : ByteArray) (w : World) (hs : s.size ≤ 9223372036854775807) (ht : t.size ≤ 9223372036854775807) :
    Calls Try.prog 31 #[.string s, .agg #[.int .i64 a, .int .i64 b, .string t]] w
      fun e w' => e = .returned (.tuple #[.agg #[.int .i64 (inv s ⟨a, b, t⟩).pos, .int .i64 (inv s ⟨a, b, t⟩).del, .string (inv s ⟨a, b, t⟩).ins], .int .i64 (apF s ⟨a, b, t⟩)]) ∧ Below w.heap.size w w' := by
  have k0 := (Blk.new' w 31 #[.int .i64 a, .int .i64 b, .string t] rfl).alloc (.cells #[.int .i64 0, .int .i64 0, .string ⟨#[]⟩] 31)
  have k1 := Blk.new' (w.alloc (.cells #[.int .i64 a, .int .i64 b, .string t] 31)) 31 #[.int .i64 0, .int .i64 0, .string ⟨#[]⟩] rfl
  simp only [World.size_alloc] at k1
  have hbw : Below w.heap.size w ((w.alloc (.cells #[.int .i64 a, .int .i64 b, .string t] 31)).alloc (.cells #[.int .i64 0, .int .i64 0, .string ⟨#[]⟩] 31)) := ((Below.refl _ _).alloc (Nat.le_refl _) _).alloc (by simp) _
  unfold inv apF
  cases hok : Ed.ok s.size ⟨a, b, t⟩ with
  | false =>
    go_enter Try.func31, Try.ntmps31
    go_wp2_with (go_at_call 26; refine (refFits_any s a b t _ (by unfold maxLen; omega)).mono ?_; rintro e w1 ⟨rfl, hb1⟩; rw [hok]; have r0 := (k1.below hb1 (by simp)); have f0 := r0.frozen 0; have f1 := r0.frozen 1; have f2 := r0.frozen 2; have c0 := r0.cell 0; have c1 := r0.cell 1; have c2 := r0.cell 2; simp at c0 c1 c2)
    have r1 := r0.set3 (.int .i64 0) (.int .i64 0) (.string ⟨#[]⟩)
    refine bodyPost_ret (results_edit_int rfl rfl (r1.cell 0) (r1.cell 1) (r1.cell 2) rfl) rfl ⟨rfl, ?_⟩
    exact (((hbw.trans (hb1.mono (by simp; omega))).setCell (by simp) _).setCell (by simp) _).setCell (by simp) _
  | true =>
    obtain ⟨h1, h2, h3, h4⟩ := Ed.ok_iff.1 hok
    simp only at h1 h2 h3 h4
    obtain ⟨i, rfl⟩ := Int.eq_ofNat_of_zero_le h1
    obtain ⟨j, rfl⟩ := Int.eq_ofNat_of_zero_le h2
    have hij : i + j ≤ s.size := by omega
    have HOK := Lib.hid hok
    have w1' : IntKind.i64.wrap ((i : Int) + (j : Int)) = (i : Int) + j := IntWalk.i64_in _ (by omega)
    have w2' : (0 : Int) ≤ (i : Int) + j := by omega
    have w3' : ((i : Int) + j).toNat = i + j := by omega
    have w4' : (i : Int) + j ≤ (s.size : Int) := by omega
    have w5' : (i : Int) ≤ (i : Int) + j := by omega
    clear hok h4
    go_enter Try.func31, Try.ntmps31
    go_wp2_with (go_at_call 26; refine (refFits_any s i j t _ (by unfold maxLen; omega)).mono ?_; rintro e w1 ⟨rfl, hb1⟩; rw [HOK.out]; have r0 := (k1.below hb1 (by simp)); have f0 := r0.frozen 0; have f1 := r0.frozen 1; have f2 := r0.frozen 2; have c0 := r0.cell 0; have c1 := r0.cell 1; have c2 := r0.cell 2; have q0 := (k0.below hb1 (by simp; omega)); have d0 := q0.cell 0; have d1 := q0.cell 1; have d2 := q0.cell 2; simp at c0 c1 c2 d0 d1 d2)
    go_still_tail 15, (by kernel_rfl)
    change wpList _ _ _ _ _ w1.drew
    go_wp2_with fail
    have r1 := (r0.drewN 1).set3 (.int .i64 i) (.int .i64 t.size) (.string (s.extract i (i + j)))
    refine bodyPost_ret (results_edit_int rfl rfl (r1.cell 0) (r1.cell 1) (r1.cell 2) rfl) rfl ⟨rfl, ?_⟩
    exact (((below_drewN (hbw.trans (hb1.mono (by simp; omega))) 1).setCell (by simp) _).setCell (by simp) _).setCell (by simp) _
end Go.Proofs.Ytepohmklbfkdfaa
