/- The reference's Run. -/
import Derived.Test.YtepohmklbfkdfaaURefC
namespace Go.Proofs.Ytepohmklbfkdfaa
open Go.RowKit

theorem end7n {w W3 : World} {N1 N2 : Nat} {a0 a1 a2 a3 b0 b1 b2 : Value} (R3 : Blk W3 N1 29 #[a0, a1, a2, a3]) (R4 : Blk W3 N2 31 #[b0, b1, b2]) (hne : N1 ≠ N2) (hb : Below w.heap.size w W3) (h1 : w.heap.size ≤ N1) (h2 : w.heap.size ≤ N2) (S : ByteArray) (sl k v i j t : Value) :
    Blk (((((((W3.setCell ⟨N1, 0, none⟩ (.string S)).setCell ⟨N1, 1, none⟩ sl).setCell ⟨N1, 2, none⟩ k).setCell ⟨N1, 3, none⟩ v).setCell ⟨N2, 0, none⟩ i).setCell ⟨N2, 1, none⟩ j).setCell ⟨N2, 2, none⟩ t) N1 29 #[.string S, sl, k, v] ∧
    Blk (((((((W3.setCell ⟨N1, 0, none⟩ (.string S)).setCell ⟨N1, 1, none⟩ sl).setCell ⟨N1, 2, none⟩ k).setCell ⟨N1, 3, none⟩ v).setCell ⟨N2, 0, none⟩ i).setCell ⟨N2, 1, none⟩ j).setCell ⟨N2, 2, none⟩ t) N2 31 #[i, j, t] ∧
    Below w.heap.size w (((((((W3.setCell ⟨N1, 0, none⟩ (.string S)).setCell ⟨N1, 1, none⟩ sl).setCell ⟨N1, 2, none⟩ k).setCell ⟨N1, 3, none⟩ v).setCell ⟨N2, 0, none⟩ i).setCell ⟨N2, 1, none⟩ j).setCell ⟨N2, 2, none⟩ t) ∧
    Touch (fun b => b = N1 ∨ b = N2) W3 (((((((W3.setCell ⟨N1, 0, none⟩ (.string S)).setCell ⟨N1, 1, none⟩ sl).setCell ⟨N1, 2, none⟩ k).setCell ⟨N1, 3, none⟩ v).setCell ⟨N2, 0, none⟩ i).setCell ⟨N2, 1, none⟩ j).setCell ⟨N2, 2, none⟩ t) :=
  ⟨((((R3.set4 (.string S) sl k v).far (p := ⟨N2, 0, none⟩) hne i).far (p := ⟨N2, 1, none⟩) hne j).far (p := ⟨N2, 2, none⟩) hne t),
   (((((R4.far (p := ⟨N1, 0, none⟩) (Ne.symm hne) (.string S)).far (p := ⟨N1, 1, none⟩) (Ne.symm hne) sl).far (p := ⟨N1, 2, none⟩) (Ne.symm hne) k).far (p := ⟨N1, 3, none⟩) (Ne.symm hne) v).set3 i j t),
   ((((((hb.setCell h1 _).setCell h1 _).setCell h1 _).setCell h1 _).setCell h2 _).setCell h2 _).setCell h2 _,
   (((((((Touch.refl (fun b => b = N1 ∨ b = N2) W3).setCell (p := ⟨N1, 0, none⟩) (.inl (.inl rfl)) _).setCell (p := ⟨N1, 1, none⟩) (.inl (.inl rfl)) _).setCell (p := ⟨N1, 2, none⟩) (.inl (.inl rfl)) _).setCell (p := ⟨N1, 3, none⟩) (.inl (.inl rfl)) _).setCell (p := ⟨N2, 0, none⟩) (.inl (.inr rfl)) _).setCell (p := ⟨N2, 1, none⟩) (.inl (.inr rfl)) _).setCell (p := ⟨N2, 2, none⟩) (.inl (.inr rfl)) _⟩

theorem RefSt.drew {w : World} {P : Nat → Prop} {c : CH} {A : Option Addr} {n cp : Nat} (h : RefSt w P c A n cp) : RefSt w.drew P c A n cp := ⟨h.r, h.le, h.loc⟩
set_option maxRecDepth 100000 in
set_option maxHeartbeats 4000000 in
theorem refRun_any (s : ByteArray) (k : Nat) (c : CH) (A : Option Addr) (n cp kk : Nat) (a b : Int) (t : ByteArray) (w : World) (hc : CInv s k c) (hs : s.size ≤ 20000) (hk : k ≤ 800) (ht : t.size ≤ 1048576) (P : Nat → Prop) (hP : ∀ b, P b → b < w.heap.size) (hr : RefSt w P c A n cp) :
    Calls Try.prog 13 #[.agg #[.string c.S, .slice A n cp, .int .i64 c.d, .int .i64 c.v], .agg #[.int .u8 kk, .int .i64 a, .int .i64 b, .string t]] w
      (RetSt (c.stepC ⟨kk, ⟨a, b, t⟩⟩) (stepX c.hs ⟨kk, ⟨a, b, t⟩⟩) (stepE c.hs ⟨kk, ⟨a, b, t⟩⟩) P w) := by
  have b1 : Below w.heap.size w ((((w.alloc (.cells #[.string c.S, .slice A n cp, .int .i64 c.d, .int .i64 c.v] 29)).alloc (.cells #[.int .u8 kk, .int .i64 a, .int .i64 b, .string t] 36)).alloc (.cells #[.string ⟨#[]⟩, .slice none 0 0, .int .i64 0, .int .i64 0] 29)).alloc (.cells #[.int .i64 0, .int .i64 0, .string ⟨#[]⟩] 31)) := ((((Below.refl _ _).alloc (Nat.le_refl _) _).alloc (by simp) _).alloc (by simp; omega) _).alloc (by simp; omega) _
  have K1 := (((Blk.new' w 29 #[.string c.S, .slice A n cp, .int .i64 c.d, .int .i64 c.v] rfl).alloc (.cells #[.int .u8 kk, .int .i64 a, .int .i64 b, .string t] 36)).alloc (.cells #[.string ⟨#[]⟩, .slice none 0 0, .int .i64 0, .int .i64 0] 29)).alloc (.cells #[.int .i64 0, .int .i64 0, .string ⟨#[]⟩] 31)
  have B1 := ((Blk.new' (g := w.heap.size + 1) (w.alloc (.cells #[.string c.S, .slice A n cp, .int .i64 c.d, .int .i64 c.v] 29)) 36 #[.int .u8 kk, .int .i64 a, .int .i64 b, .string t] (by simp)).alloc (.cells #[.string ⟨#[]⟩, .slice none 0 0, .int .i64 0, .int .i64 0] 29)).alloc (.cells #[.int .i64 0, .int .i64 0, .string ⟨#[]⟩] 31)
  have R1 := (Blk.new' (g := w.heap.size + 1 + 1) ((w.alloc (.cells #[.string c.S, .slice A n cp, .int .i64 c.d, .int .i64 c.v] 29)).alloc (.cells #[.int .u8 kk, .int .i64 a, .int .i64 b, .string t] 36)) 29 #[.string ⟨#[]⟩, .slice none 0 0, .int .i64 0, .int .i64 0] (by simp)).alloc (.cells #[.int .i64 0, .int .i64 0, .string ⟨#[]⟩] 31)
  have R2 := Blk.new' (g := w.heap.size + 1 + 1 + 1) (((w.alloc (.cells #[.string c.S, .slice A n cp, .int .i64 c.d, .int .i64 c.v] 29)).alloc (.cells #[.int .u8 kk, .int .i64 a, .int .i64 b, .string t] 36)).alloc (.cells #[.string ⟨#[]⟩, .slice none 0 0, .int .i64 0, .int .i64 0] 29)) 31 #[.int .i64 0, .int .i64 0, .string ⟨#[]⟩] (by simp)
  have hr1 := hr.below b1
  obtain ⟨W1, hW1⟩ : ∃ W1, W1 = (((w.alloc (.cells #[.string c.S, .slice A n cp, .int .i64 c.d, .int .i64 c.v] 29)).alloc (.cells #[.int .u8 kk, .int .i64 a, .int .i64 b, .string t] 36)).alloc (.cells #[.string ⟨#[]⟩, .slice none 0 0, .int .i64 0, .int .i64 0] 29)).alloc (.cells #[.int .i64 0, .int .i64 0, .string ⟨#[]⟩] 31) := ⟨_, rfl⟩
  have hM : W1.heap.size = w.heap.size + 1 + 1 + 1 + 1 := by rw [hW1]; simp
  rw [← hW1] at b1 K1 B1 R1 R2 hr1
  have WAIT := Lib.hid hW1
  have HR1 := Lib.hid hr1
  have HC := Lib.hid hc
  have HP := Lib.hid hP
  obtain ⟨x0, x1, x2, x3, _, _, _, _⟩ := blk4 K1
  obtain ⟨y0, y1, y2, y3, _, _, _, _⟩ := blk4 B1
  have hsz : w.heap.size + 1 + 1 + 1 < W1.heap.size := by omega
  clear hr hr1 hW1 hM
  have m0 : (kk : Int) % 3 = ((kk % 3 : Nat) : Int) := by omega
  have m1 : kk % 3 < 3 := Nat.mod_lt _ (by omega)
  rcases (show kk % 3 = 1 ∨ kk % 3 = 2 ∨ kk % 3 = 0 by omega) with hk3 | hk3 | hk3
  · have t1 : ((kk : Int) % 3 == 1) = true := by rw [m0, hk3]; rfl
    have HE := Lib.hid (show stepE c.hs ⟨kk, ⟨a, b, t⟩⟩ = undoE c.hs ∧ stepX c.hs ⟨kk, ⟨a, b, t⟩⟩ = undoX c.hs ∧ c.stepC ⟨kk, ⟨a, b, t⟩⟩ = c.undoC by simp [stepE, stepX, CH.stepC, hk3])
    clear m0 hk3
    rw [HE.out.1, HE.out.2.1, HE.out.2.2]
    go_enter Try.func13, Try.ntmps13
    go_wp2_with fail
    rw [← WAIT.out]
    go_wp2_with fail
    refine (refUndoC_any s k c _ A n cp _ HC.out hs hk HR1.out).mono ?_
    rintro e w2 ⟨A', n', cp', rfl, hr', hb2⟩
    have hs2 := hb2.size
    have R3 := R1.below hb2 (by omega)
    have R4 := R2.below hb2 (by omega)
    obtain ⟨r0, r1, r2, r3, f0, f1, f2, f3⟩ := blk4 R3
    obtain ⟨s0, s1, s2, g0, g1, g2⟩ := blk3 R4
    have hbb := b1.trans (hb2.mono (by omega))
    have HR := Lib.hid hr'
    clear hr'
    unfold stV edV
    go_wp2_with fail
    obtain ⟨F1, F2, F3, F4⟩ := end7n R3 R4 (by omega) hbb (by omega) (by omega) c.undoC.S (.slice A' n' cp') (.int .i64 c.undoC.d) (.int .i64 c.undoC.v) (.int .i64 (undoX c.hs).pos) (.int .i64 (undoX c.hs).del) (.string (undoX c.hs).ins)
    refine bodyPost_ret (results_st_ed_int rfl rfl rfl (F1.cell 0) (F1.cell 1) (F1.cell 2) (F1.cell 3) ⟨_, _, _, rfl⟩ (F2.cell 0) (F2.cell 1) (F2.cell 2) rfl) rfl ⟨A', n', cp', rfl, ?_, F3⟩
    exact (HR.out.touch F4 (fun b hb e => by rcases hb with h | h; have := HP.out b h; rcases e with e | e <;> omega; rcases e with e | e <;> omega)).mono (fun b hb => by rcases hb with h | h; exact .inl h; right; omega)
  · have t1 : ((kk : Int) % 3 == 1) = false := by rw [m0, hk3]; rfl
    have t2 : ((kk : Int) % 3 == 2) = true := by rw [m0, hk3]; rfl
    have HE := Lib.hid (show stepE c.hs ⟨kk, ⟨a, b, t⟩⟩ = redoE c.hs ∧ stepX c.hs ⟨kk, ⟨a, b, t⟩⟩ = redoX c.hs ∧ c.stepC ⟨kk, ⟨a, b, t⟩⟩ = c.redoC by simp [stepE, stepX, CH.stepC, hk3])
    clear m0 hk3
    rw [HE.out.1, HE.out.2.1, HE.out.2.2]
    go_enter Try.func13, Try.ntmps13
    go_wp2_with fail
    rw [← WAIT.out]
    go_wp2_with fail
    refine (refRedoC_any s k c _ A n cp _ HC.out hk HR1.out).mono ?_
    rintro e w2 ⟨A', n', cp', rfl, hr', hb2⟩
    have hs2 := hb2.size
    have R3 := R1.below hb2 (by omega)
    have R4 := R2.below hb2 (by omega)
    obtain ⟨r0, r1, r2, r3, f0, f1, f2, f3⟩ := blk4 R3
    obtain ⟨s0, s1, s2, g0, g1, g2⟩ := blk3 R4
    have hbb := b1.trans (hb2.mono (by omega))
    have HR := Lib.hid hr'
    clear hr'
    unfold stV edV
    go_wp2_with fail
    obtain ⟨F1, F2, F3, F4⟩ := end7n R3 R4 (by omega) hbb (by omega) (by omega) c.redoC.S (.slice A' n' cp') (.int .i64 c.redoC.d) (.int .i64 c.redoC.v) (.int .i64 (redoX c.hs).pos) (.int .i64 (redoX c.hs).del) (.string (redoX c.hs).ins)
    refine bodyPost_ret (results_st_ed_int rfl rfl rfl (F1.cell 0) (F1.cell 1) (F1.cell 2) (F1.cell 3) ⟨_, _, _, rfl⟩ (F2.cell 0) (F2.cell 1) (F2.cell 2) rfl) rfl ⟨A', n', cp', rfl, ?_, F3⟩
    exact (HR.out.touch F4 (fun b hb e => by rcases hb with h | h; have := HP.out b h; rcases e with e | e <;> omega; rcases e with e | e <;> omega)).mono (fun b hb => by rcases hb with h | h; exact .inl h; right; omega)
  · have t1 : ((kk : Int) % 3 == 1) = false := by rw [m0, hk3]; rfl
    have t2 : ((kk : Int) % 3 == 2) = false := by rw [m0, hk3]; rfl
    have HE := Lib.hid (show stepE c.hs ⟨kk, ⟨a, b, t⟩⟩ = doE c.hs ⟨a, b, t⟩ ∧ stepX c.hs ⟨kk, ⟨a, b, t⟩⟩ = (if doE c.hs ⟨a, b, t⟩ = 0 then ⟨a, b, t⟩ else ed0) ∧ c.stepC ⟨kk, ⟨a, b, t⟩⟩ = c.doC ⟨a, b, t⟩ by simp [stepE, stepX, CH.stepC, hk3])
    clear m0 hk3
    rw [HE.out.1, HE.out.2.1, HE.out.2.2]
    obtain ⟨E, hE⟩ : ∃ E, doE c.hs ⟨a, b, t⟩ = E := ⟨_, rfl⟩
    obtain ⟨c1, hc1⟩ : ∃ c1, c.doC ⟨a, b, t⟩ = c1 := ⟨_, rfl⟩
    rw [hE, hc1]
    have HEE := Lib.hid hE
    have HCC := Lib.hid hc1
    clear hE hc1
    by_cases hz : E = 0
    · subst hz
      rw [if_pos rfl]
      go_enter Try.func13, Try.ntmps13
      go_wp2_with fail
      rw [← WAIT.out]
      go_wp2_with fail
      refine (refDoC_any s k c _ A n cp a b t _ HC.out hs hk ht HR1.out).mono ?_
      rw [HEE.out, HCC.out]
      rintro e w2 ⟨A', n', cp', rfl, hr', hb2⟩
      unfold stV
      have hs2 := hb2.size
      have R3 := (R1.below hb2 (by omega)).alloc (.cells #[.string c1.S, .slice A' n' cp', .int .i64 c1.d, .int .i64 c1.v] 29)
      have R4 := (R2.below hb2 (by omega)).alloc (.cells #[.string c1.S, .slice A' n' cp', .int .i64 c1.d, .int .i64 c1.v] 29)
      have B3 := (B1.below hb2 (by omega)).alloc (.cells #[.string c1.S, .slice A' n' cp', .int .i64 c1.d, .int .i64 c1.v] 29)
      have Q3 := Blk.new' w2 29 #[.string c1.S, .slice A' n' cp', .int .i64 c1.d, .int .i64 c1.v] rfl
      have hbb := (b1.trans (hb2.mono (by omega))).alloc (b1.trans (hb2.mono (by omega))).size (.cells #[.string c1.S, .slice A' n' cp', .int .i64 c1.d, .int .i64 c1.v] 29)
      have HR := Lib.hid (hr'.below ((Below.refl _ _).alloc (Nat.le_refl _) (.cells #[.string c1.S, .slice A' n' cp', .int .i64 c1.d, .int .i64 c1.v] 29)))
      have hrz := hb2.size
      clear hr' x0 x1 x2 x3 y0 y1 y2 y3
      obtain ⟨r0, r1, r2, r3, f0, f1, f2, f3⟩ := blk4 R3
      obtain ⟨s0, s1, s2, g0, g1, g2⟩ := blk3 R4
      obtain ⟨y0, y1, y2, y3, _, _, _, _⟩ := blk4 B3
      obtain ⟨q0, q1, q2, q3, _, _, _, _⟩ := blk4 Q3
      have n1 : w2.heap.size ≠ w.heap.size + 1 + 1 := by omega
      have n2 : w2.heap.size ≠ w.heap.size + 1 + 1 + 1 := by omega
      have n3 : w.heap.size + 1 + 1 ≠ w2.heap.size := by omega
      have n4 : w.heap.size + 1 + 1 + 1 ≠ w2.heap.size := by omega
      have n5 : w.heap.size ≤ w2.heap.size := by omega
      have n6 : w.heap.size + 1 + 1 + 1 < w2.heap.size := by omega
      go_wp2_with fail
      generalize w2.alloc (.cells #[.string c1.S, .slice A' n' cp', .int .i64 c1.d, .int .i64 c1.v] 29) = W3 at *
      obtain ⟨m5, hm5⟩ : ∃ m5, w2.heap.size = m5 := ⟨_, rfl⟩
      rw [hm5] at q0 q1 q2 q3 n1 n2 n3 n4 n5 n6 ⊢
      have HM5 := Lib.hid hm5
      clear hm5
      go_region
      all_goals
        obtain ⟨F1, F2, F3⟩ := end7 R3 R4 (by omega) hbb (by omega) (by omega) c1.S (.slice A' n' cp') (.int .i64 c1.d) (.int .i64 c1.v) (.int .i64 a) (.int .i64 b) (.string t)
        obtain ⟨_, _, _, F4⟩ := end7n R3 R4 (by omega) hbb (by omega) (by omega) c1.S (.slice A' n' cp') (.int .i64 c1.d) (.int .i64 c1.v) (.int .i64 a) (.int .i64 b) (.string t)
        go_wp2_with fail
        have hm5 := HM5.out
        refine bodyPost_ret (v := .tuple #[.agg #[.string c1.S, .slice A' n' cp', .int .i64 c1.d, .int .i64 c1.v], .agg #[.int .i64 a, .int .i64 b, .string t], .int .i64 0]) ?_ rfl ?_
        · exact results_st_ed_int rfl rfl rfl (F1.cell 0) (F1.cell 1) (F1.cell 2) (F1.cell 3) ⟨A', n', cp', rfl⟩ (F2.cell 0) (F2.cell 1) (F2.cell 2) rfl
        refine ⟨A', n', cp', rfl, ?_, F3⟩
        have h5 := (HR.out.touch F4 (fun b hb e => by rcases hb with h | h; have := HP.out b h; rcases e with e | e <;> omega; rcases e with e | e <;> omega)).mono (P' := fun b => P b ∨ w.heap.size ≤ b) (fun b hb => by rcases hb with h | h; exact .inl h; right; omega)
        exact RefSt.drew h5
    · have hz1 : (E != 0) = true := by simp [hz]
      rw [if_neg hz]
      clear hz
      go_enter Try.func13, Try.ntmps13
      go_wp2_with fail
      rw [← WAIT.out]
      go_wp2_with fail
      refine (refDoC_any s k c _ A n cp a b t _ HC.out hs hk ht HR1.out).mono ?_
      rw [HEE.out, HCC.out]
      rintro e w2 ⟨A', n', cp', rfl, hr', hb2⟩
      unfold stV
      have hs2 := hb2.size
      have R3 := (R1.below hb2 (by omega)).alloc (.cells #[.string c1.S, .slice A' n' cp', .int .i64 c1.d, .int .i64 c1.v] 29)
      have R4 := (R2.below hb2 (by omega)).alloc (.cells #[.string c1.S, .slice A' n' cp', .int .i64 c1.d, .int .i64 c1.v] 29)
      have B3 := (B1.below hb2 (by omega)).alloc (.cells #[.string c1.S, .slice A' n' cp', .int .i64 c1.d, .int .i64 c1.v] 29)
      have Q3 := Blk.new' w2 29 #[.string c1.S, .slice A' n' cp', .int .i64 c1.d, .int .i64 c1.v] rfl
      have hbb := (b1.trans (hb2.mono (by omega))).alloc (b1.trans (hb2.mono (by omega))).size (.cells #[.string c1.S, .slice A' n' cp', .int .i64 c1.d, .int .i64 c1.v] 29)
      have HR := Lib.hid (hr'.below ((Below.refl _ _).alloc (Nat.le_refl _) (.cells #[.string c1.S, .slice A' n' cp', .int .i64 c1.d, .int .i64 c1.v] 29)))
      have hrz := hb2.size
      clear hr' x0 x1 x2 x3 y0 y1 y2 y3
      obtain ⟨r0, r1, r2, r3, f0, f1, f2, f3⟩ := blk4 R3
      obtain ⟨s0, s1, s2, g0, g1, g2⟩ := blk3 R4
      obtain ⟨y0, y1, y2, y3, _, _, _, _⟩ := blk4 B3
      obtain ⟨q0, q1, q2, q3, _, _, _, _⟩ := blk4 Q3
      go_wp2_with fail
      obtain ⟨F1, F2, F3, F4⟩ := end7n R3 R4 (by omega) hbb (by omega) (by omega) c1.S (.slice A' n' cp') (.int .i64 c1.d) (.int .i64 c1.v) (.int .i64 0) (.int .i64 0) (.string ⟨#[]⟩)
      refine bodyPost_ret (results_st_ed_int rfl rfl rfl (F1.cell 0) (F1.cell 1) (F1.cell 2) (F1.cell 3) ⟨_, _, _, rfl⟩ (F2.cell 0) (F2.cell 1) (F2.cell 2) rfl) rfl ⟨A', n', cp', rfl, ?_, F3⟩
      exact (HR.out.touch F4 (fun b hb e => by rcases hb with h | h; have := HP.out b h; rcases e with e | e <;> omega; rcases e with e | e <;> omega)).mono (fun b hb => by rcases hb with h | h; exact .inl h; right; omega)
end Go.Proofs.Ytepohmklbfkdfaa
