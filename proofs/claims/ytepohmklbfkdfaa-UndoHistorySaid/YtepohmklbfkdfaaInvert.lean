/- Invert returns the inverse edit. -/
import Derived.Test.YtepohmklbfkdfaaEdit
namespace Go.Proofs.Ytepohmklbfkdfaa
open Go.RowKit

theorem results_edit_int {fn : Func} {p q : Tmp} (h : fn.results = #[.cell p 31, .tmp q]) {tmps : Array Value} {b o : Nat} (hp : tmps.getD p undef = .pointer (some ⟨b, o, none⟩)) {w : World} {i j : Int} {t : ByteArray} {v : Value}
    (h0 : w.cell? ⟨b, o, none⟩ = some (.int .i64 i)) (h1 : w.cell? ⟨b, o + 1, none⟩ = some (.int .i64 j)) (h2 : w.cell? ⟨b, o + 2, none⟩ = some (.string t)) (hv : tmps.getD q undef = v) :
    (results fn tmps).run Try.prog w = .ok (.tuple #[.agg #[.int .i64 i, .int .i64 j, .string t], v]) w := by
  rw [results_cell_tmp h, hp, hv]
  simp [go_sem, asAddr, h0, h1, h2]
theorem Blk.set3 {w : World} {g : Nat} {t : TypeId} {a0 a1 a2 : Value} (h : Blk w g t #[a0, a1, a2]) (x0 x1 x2 : Value) :
    Blk (((w.setCell ⟨g, 0, none⟩ x0).setCell ⟨g, 1, none⟩ x1).setCell ⟨g, 2, none⟩ x2) g t #[x0, x1, x2] := by
  have := ((h.set_ 0 x0).set_ 1 x1).set_ 2 x2
  simpa using this

set_option maxHeartbeats 1000000 in
theorem invert_any (s : ByteArray) (a b : Int) (t : ByteArray) (w : World) (hs : s.size ≤ 9223372036854775807) (ht : t.size ≤ 9223372036854775807) :
    Calls Try.prog 33 #[.string s, .agg #[.int .i64 a, .int .i64 b, .string t]] w
      fun e w' => e = .returned (.tuple #[.agg #[.int .i64 (inv s ⟨a, b, t⟩).pos, .int .i64 (inv s ⟨a, b, t⟩).del, .string (inv s ⟨a, b, t⟩).ins], .int .i64 (apF s ⟨a, b, t⟩)]) ∧ Below w.heap.size w w' := by
  have k0 := (Blk.new' w 31 #[.int .i64 a, .int .i64 b, .string t] rfl).alloc (.cells #[.int .i64 0, .int .i64 0, .string ⟨#[]⟩] 31)
  have k1 := Blk.new' (w.alloc (.cells #[.int .i64 a, .int .i64 b, .string t] 31)) 31 #[.int .i64 0, .int .i64 0, .string ⟨#[]⟩] rfl
  simp only [World.size_alloc] at k1
  have hbw : Below w.heap.size w ((w.alloc (.cells #[.int .i64 a, .int .i64 b, .string t] 31)).alloc (.cells #[.int .i64 0, .int .i64 0, .string ⟨#[]⟩] 31)) := ((Below.refl _ _).alloc (Nat.le_refl _) _).alloc (by simp) _
  unfold inv apF
  cases hok : Ed.ok s.size ⟨a, b, t⟩ with
  | false =>
    go_enter Try.func33, Try.ntmps33
    go_wp2_with (go_at_call 32; refine (fits_any s.size a b t _ (by unfold maxLen; omega)).mono ?_; rintro e w1 ⟨rfl, hb1⟩; rw [hok]; have r0 := (k1.below hb1 (by simp)); have f0 := r0.frozen 0; have f1 := r0.frozen 1; have f2 := r0.frozen 2; have c0 := r0.cell 0; have c1 := r0.cell 1; have c2 := r0.cell 2; simp at c0 c1 c2)
    have r1 := r0.set3 (.int .i64 0) (.int .i64 0) (.string ⟨#[]⟩)
    refine bodyPost_ret (results_edit_int rfl rfl (r1.cell 0) (r1.cell 1) (r1.cell 2) rfl) rfl ⟨rfl, ?_⟩
    exact (((hbw.trans (hb1.mono (by simp; omega))).setCell (by simp) _).setCell (by simp) _).setCell (by simp) _
  | true =>
    obtain ⟨h1, h2, h3, h4⟩ := Ed.ok_iff.1 hok
    simp only at h1 h2 h3 h4
    obtain ⟨i, rfl⟩ := Int.eq_ofNat_of_zero_le h1
    obtain ⟨j, rfl⟩ := Int.eq_ofNat_of_zero_le h2
    have hij : i + j ≤ s.size := by omega
    have HOK := Lib.hid hok
    have w1' : IntKind.i64.wrap ((i : Int) + (j : Int)) = (i : Int) + j := IntWalk.i64_in _ (by omega)
    have w2' : (0 : Int) ≤ (i : Int) + j := by omega
    have w3' : ((i : Int) + j).toNat = i + j := by omega
    have w4' : (i : Int) + j ≤ (s.size : Int) := by omega
    have w5' : (i : Int) ≤ (i : Int) + j := by omega
    clear hok h4
    go_enter Try.func33, Try.ntmps33
    go_wp2_with (go_at_call 32; refine (fits_any s.size i j t _ (by unfold maxLen; omega)).mono ?_; rintro e w1 ⟨rfl, hb1⟩; rw [HOK.out]; have r0 := (k1.below hb1 (by simp)); have f0 := r0.frozen 0; have f1 := r0.frozen 1; have f2 := r0.frozen 2; have c0 := r0.cell 0; have c1 := r0.cell 1; have c2 := r0.cell 2; have q0 := (k0.below hb1 (by simp; omega)); have d0 := q0.cell 0; have d1 := q0.cell 1; have d2 := q0.cell 2; simp at c0 c1 c2 d0 d1 d2)
    go_still_tail 15, (by kernel_rfl)
    change wpList _ _ _ _ _ w1.drew
    go_wp2_with fail
    have r1 := (r0.drewN 1).set3 (.int .i64 i) (.int .i64 t.size) (.string (s.extract i (i + j)))
    refine bodyPost_ret (results_edit_int rfl rfl (r1.cell 0) (r1.cell 1) (r1.cell 2) rfl) rfl ⟨rfl, ?_⟩
    exact (((below_drewN (hbw.trans (hb1.mono (by simp; omega))) 1).setCell (by simp) _).setCell (by simp) _).setCell (by simp) _
end Go.Proofs.Ytepohmklbfkdfaa
