/- move: the next edit of one stack is applied, its inverse goes to the other one. -/
import Derived.Test.YtepohmklbfkdfaaUApply
namespace Go.Proofs.Ytepohmklbfkdfaa
open Go.RowKit

set_option maxRecDepth 100000 in
set_option maxHeartbeats 1000000 in
theorem move_none (g jf jt : Nat) (cs : Array Value) (A : Option Addr) (c : Nat) (w : World) (K : Blk w g 54 cs) (hj : cs[jf]? = some (.slice A 0 c)) :
    Calls Try.prog 30 #[.pointer (some ⟨g, 0, none⟩), .pointer (some ⟨g, jf, none⟩), .pointer (some ⟨g, jt, none⟩)] w
      fun e w' => e = .returned (.tuple #[.agg #[.int .i64 0, .int .i64 0, .string ⟨#[]⟩], .int .i64 15]) ∧ Below w.heap.size w w' := by
  have K1 := K.alloc (.cells #[.int .i64 0, .int .i64 0, .string ⟨#[]⟩] 31)
  have R1 := Blk.new' w 31 #[.int .i64 0, .int .i64 0, .string ⟨#[]⟩] rfl
  have hb0 : Below w.heap.size w (w.alloc (.cells #[.int .i64 0, .int .i64 0, .string ⟨#[]⟩] 31)) := (Below.refl _ _).alloc (Nat.le_refl _) _
  have HK := Lib.hid K1
  have HJ := Lib.hid hj
  clear K K1 hj
  go_enter Try.func30, Try.ntmps30
  go_wp2_with fail
  refine (pop_none g jf cs A c _ HK.out HJ.out).mono ?_
  rintro e w1 ⟨rfl, hb1⟩
  simp only [World.size_alloc] at hb1
  have hs1 := hb1.size
  simp only [World.size_alloc] at hs1
  have hbb := hb0.trans (hb1.mono (by omega))
  have R2 := (R1.below hb1 (by omega)).alloc (.cells #[.int .i64 0, .int .i64 0, .string ⟨#[]⟩] 31)
  have r0 := R2.cell 0
  have r1 := R2.cell 1
  have r2 := R2.cell 2
  have f0 := R2.frozen 0
  have f1 := R2.frozen 1
  have f2 := R2.frozen 2
  simp at r0 r1 r2
  have R3 := R2.set3 (.int .i64 0) (.int .i64 0) (.string ⟨#[]⟩)
  go_wp2_with fail
  first
    | (refine bodyPost_ret (results_edit_int rfl rfl (R3.cell 0) (R3.cell 1) (R3.cell 2) rfl) rfl ⟨rfl, ?_⟩
       exact (((hbb.alloc hbb.size _).setCell (by simp) _).setCell (by simp) _).setCell (by simp) _)
    | (refine bodyPost_ret (results_edit_int rfl rfl (R2.cell 0) (R2.cell 1) (R2.cell 2) rfl) rfl ⟨rfl, ?_⟩
       exact hbb.alloc hbb.size _)

set_option maxRecDepth 100000 in
set_option maxHeartbeats 4000000 in
theorem moveU_any (g v : Nat) (s : ByteArray) (vf vt : Value) (L R : List Ed) (a b : Int) (t : ByteArray) (w : World) (F : Nat → Prop) (K : Blk w g 54 #[.string s, .int .i64 v, vf, vt]) (hs : s.size ≤ 1048576) (ht : t.size ≤ 1048576) (hv : v ≤ 1000000) (hL : L.length ≤ 999) (hR : R.length ≤ 999)
    (hf : w.ownsRow 0 31 3 vf (L.length + 1) (eds (L ++ [⟨a, b, t⟩]))) (ho : w.ownsRow 0 31 3 vt R.length (eds R)) (hFg : F g) (hFf : ∀ k, vf.ownBlock = some k → F k) (hFt : ∀ k, vt.ownBlock = some k → F k) (hx : ∀ k, vf.ownBlock = some k → vt.ownBlock ≠ some k) :
    Calls Try.prog 30 #[.pointer (some ⟨g, 0, none⟩), .pointer (some ⟨g, 2, none⟩), .pointer (some ⟨g, 3, none⟩)] w
      fun e w' => e = .returned (.tuple #[.agg #[.int .i64 a, .int .i64 b, .string t], .int .i64 0]) ∧ HPost w F g ⟨apT s ⟨a, b, t⟩, v + 1, L, R ++ [inv s ⟨a, b, t⟩]⟩ w' := by
  have hg := K.lt
  have hfl : ∀ k, vf.ownBlock = some k → k < w.heap.size := fun k hk => own_lt hf hk
  have htl : ∀ k, vt.ownBlock = some k → k < w.heap.size := fun k hk => own_lt ho hk
  have hfg := own_blk_ne hf K (by decide)
  have htg := own_blk_ne ho K (by decide)
  obtain ⟨⟨ip, id, ii⟩, hI⟩ : ∃ e, inv s ⟨a, b, t⟩ = e := ⟨_, rfl⟩
  have K1 := K.alloc (.cells #[.int .i64 0, .int .i64 0, .string ⟨#[]⟩] 31)
  have R1 := Blk.new' w 31 #[.int .i64 0, .int .i64 0, .string ⟨#[]⟩] rfl
  have hf1 := own_below hf ((Below.refl w.heap.size w).alloc (Nat.le_refl _) (.cells #[.int .i64 0, .int .i64 0, .string ⟨#[]⟩] 31))
  have ho1 := own_below ho ((Below.refl w.heap.size w).alloc (Nat.le_refl _) (.cells #[.int .i64 0, .int .i64 0, .string ⟨#[]⟩] 31))
  have T1 : Touch (fun k => k = g ∨ vt.ownBlock = some k) w (w.alloc (.cells #[.int .i64 0, .int .i64 0, .string ⟨#[]⟩] 31)) := (Touch.refl _ _).alloc _
  have HF := Lib.hid (show F g ∧ (∀ k, vf.ownBlock = some k → F k) ∧ (∀ k, vt.ownBlock = some k → F k) ∧ (∀ k, vf.ownBlock = some k → vt.ownBlock ≠ some k) from ⟨hFg, hFf, hFt, hx⟩)
  have HL := Lib.hid (show (∀ k, vf.ownBlock = some k → k < w.heap.size) ∧ (∀ k, vt.ownBlock = some k → k < w.heap.size) ∧ vf.ownBlock ≠ some g ∧ vt.ownBlock ≠ some g from ⟨hfl, htl, hfg, htg⟩)
  have HI := Lib.hid hI
  have HK := Lib.hid K1
  have HF1 := Lib.hid hf1
  have HO1 := Lib.hid ho1
  clear K K1 hf ho hf1 ho1 hFg hFf hFt hx hfl htl hfg htg hI
  go_enter Try.func30, Try.ntmps30
  go_wp2_with fail
  refine (pop_some g 2 _ vf L a b t _ HK.out rfl HF1.out (by omega)).mono ?_
  rintro e w1 ⟨rfl, vf', hf2, K2, hvf, T2⟩
  have hs1 := T2.size
  simp only [World.size_alloc] at hs1
  have R2 := R1.touch T2 (by omega)
  have ho2 := own_touch HO1.out T2 (fun k hk e => HL.out.2.2.2 (by subst e; exact hk))
  have T12 : Touch (fun k => k = g ∨ vt.ownBlock = some k) w w1 := T1.trans T2 (fun k hk => .inl (.inl hk))
  simp only [List.setIfInBounds_toArray, List.set_cons_zero, List.set_cons_succ] at K2
  have K3 := K2.alloc (.cells #[.int .i64 a, .int .i64 b, .string t] 31)
  have N3 := Blk.new' w1 31 #[.int .i64 a, .int .i64 b, .string t] rfl
  have hf3 := own_below hf2 ((Below.refl w1.heap.size w1).alloc (Nat.le_refl _) (.cells #[.int .i64 a, .int .i64 b, .string t] 31))
  have ho3 := own_below ho2 ((Below.refl w1.heap.size w1).alloc (Nat.le_refl _) (.cells #[.int .i64 a, .int .i64 b, .string t] 31))
  have T13 := T12.alloc (.cells #[.int .i64 a, .int .i64 b, .string t] 31)
  have R3 := R2.alloc (.cells #[.int .i64 a, .int .i64 b, .string t] 31)
  have HK3 := Lib.hid K3
  have HF3 := Lib.hid hf3
  have HO3 := Lib.hid ho3
  have HVF := Lib.hid hvf
  clear K2 K3 hf2 hf3 ho2 ho3 hvf T1 T2 T12 R1 R2
  go_wp2_with fail
  refine (applyH_any g v s _ _ a b t _ HK3.out hs ht hv).mono ?_
  rw [HI.out]
  rintro e w2 ⟨rfl, K4, T4⟩
  have hs2 := T4.size
  simp only [World.size_alloc] at hs2
  have N4 := N3.touch T4 (by omega)
  have R4 := R3.touch T4 (by omega)
  have hf4 := own_touch HF3.out T4 (fun k hk e => HL.out.2.2.1 (by subst e; exact HVF.out.symm.trans hk))
  have ho4 := own_touch HO3.out T4 (fun k hk e => HL.out.2.2.2 (by subst e; exact hk))
  have T14 := T13.trans T4 (fun k hk => .inl (.inl hk))
  have HK4 := Lib.hid K4
  have HO4 := Lib.hid ho4
  have HF4 := Lib.hid hf4
  clear T4 T13 N3 R3 K4 ho4 hf4
  go_wp2_with fail
  refine (push_any g 3 _ vt R ip id ii _ HK4.out rfl HO4.out (by omega)).mono ?_
  rintro e w3 ⟨rfl, gg, cap, ho5, K5, hat, T5⟩
  have hs3 := T5.size
  have hN : ¬ (w1.heap.size = g ∨ vt.ownBlock = some w1.heap.size) := by
    rintro (h | h)
    · omega
    · have := HL.out.2.1 _ h; omega
  have hRn : ¬ (w.heap.size = g ∨ vt.ownBlock = some w.heap.size) := by
    rintro (h | h)
    · omega
    · have := HL.out.2.1 _ h; omega
  have N5 := N4.touch T5 hN
  have R5 := R4.touch T5 hRn
  have hf5 := own_touch HF4.out T5 (fun k hk => by
    rintro (h | h)
    · exact HL.out.2.2.1 (by subst h; exact HVF.out.symm.trans hk)
    · exact HF.out.2.2.2 k (HVF.out.symm.trans hk) h)
  have T15 := T14.trans T5 (fun k hk => .inl hk)
  simp only [List.setIfInBounds_toArray, List.set_cons_zero, List.set_cons_succ] at K5
  have n0 := N5.cell 0
  have n1 := N5.cell 1
  have n2 := N5.cell 2
  have r0 := R5.cell 0
  have r1 := R5.cell 1
  have r2 := R5.cell 2
  have f0 := R5.frozen 0
  have f1 := R5.frozen 1
  have f2 := R5.frozen 2
  simp at n0 n1 n2 r0 r1 r2
  have HK5 := Lib.hid K5
  have HF5 := Lib.hid hf5
  have HO5 := Lib.hid ho5
  have HAT := Lib.hid hat
  clear K5 hf5 ho5 hat T14 T5 N4 R4
  go_wp2_with fail
  have R6 := R5.set3 (.int .i64 a) (.int .i64 b) (.string t)
  refine bodyPost_ret (results_edit_int rfl rfl (R6.cell 0) (R6.cell 1) (R6.cell 2) rfl) rfl ⟨rfl, ?_⟩
  have hgN : g ≠ w.heap.size := by omega
  have TR : Touch (fun k => k = w.heap.size) w3 (((w3.setCell ⟨w.heap.size, 0, none⟩ (.int .i64 a)).setCell ⟨w.heap.size, 1, none⟩ (.int .i64 b)).setCell ⟨w.heap.size, 2, none⟩ (.string t)) :=
    (((Touch.refl (fun k => k = w.heap.size) w3).setCell (p := ⟨w.heap.size, 0, none⟩) (.inl rfl) _).setCell (p := ⟨w.heap.size, 1, none⟩) (.inl rfl) _).setCell (p := ⟨w.heap.size, 2, none⟩) (.inl rfl) _
  have hgg : gg ≠ w.heap.size := by
    rcases HAT.out with h | h
    · have := HL.out.2.1 _ h; omega
    · omega
  have hK7 := HK5.out.touch TR hgN
  have hF7 := own_touch HF5.out TR (fun k hk e => by
    have := HL.out.1 k (HVF.out.symm.trans hk)
    omega)
  have hO7 := own_touch HO5.out TR (fun k hk e => by
    have : gg = k := by simpa [Value.ownBlock] using hk
    omega)
  have hT7 := T15.trans TR (fun k hk => by right; omega)
  refine ⟨fun k => F k ∨ w.heap.size ≤ k, ?_, hT7.mono ?_, fun k hk => hk⟩
  · have c1 : ∀ k, vf'.ownBlock = some k → F k ∨ w.heap.size ≤ k := fun k hk => .inl (HF.out.2.1 k (HVF.out.symm.trans hk))
    have c2 : ∀ k, (Value.slice (some ⟨gg, 0, none⟩) (R ++ [(⟨ip, id, ii⟩ : Ed)]).length cap).ownBlock = some k → F k ∨ w.heap.size ≤ k := by
      intro k hk
      have : gg = k := by simpa [Value.ownBlock] using hk
      subst this
      rcases HAT.out with h | h
      · exact .inl (HF.out.2.2.1 _ h)
      · right; omega
    have c3 : vf'.ownBlock ≠ some gg := by
      intro hk
      have h0 := HVF.out.symm.trans hk
      rcases HAT.out with h | h
      · exact HF.out.2.2.2 _ h0 h
      · have := HL.out.1 _ h0; omega
    rw [← HI.out] at *
    exact ⟨vf', _, hK7, hF7, hO7, .inl HF.out.1, c1, c2, fun k hk e => c3 (by
      have : gg = k := by simpa [Value.ownBlock] using e
      rw [this]; exact hk)⟩
  · rintro k (h | h)
    · rw [h]; exact HF.out.1
    · exact HF.out.2.2.1 k h

set_option maxRecDepth 100000 in
set_option maxHeartbeats 4000000 in
theorem moveR_any (g v : Nat) (s : ByteArray) (vf vt : Value) (L R : List Ed) (a b : Int) (t : ByteArray) (w : World) (F : Nat → Prop) (K : Blk w g 54 #[.string s, .int .i64 v, vt, vf]) (hs : s.size ≤ 1048576) (ht : t.size ≤ 1048576) (hv : v ≤ 1000000) (hL : L.length ≤ 999) (hR : R.length ≤ 999)
    (hf : w.ownsRow 0 31 3 vf (L.length + 1) (eds (L ++ [⟨a, b, t⟩]))) (ho : w.ownsRow 0 31 3 vt R.length (eds R)) (hFg : F g) (hFf : ∀ k, vf.ownBlock = some k → F k) (hFt : ∀ k, vt.ownBlock = some k → F k) (hx : ∀ k, vf.ownBlock = some k → vt.ownBlock ≠ some k) :
    Calls Try.prog 30 #[.pointer (some ⟨g, 0, none⟩), .pointer (some ⟨g, 3, none⟩), .pointer (some ⟨g, 2, none⟩)] w
      fun e w' => e = .returned (.tuple #[.agg #[.int .i64 a, .int .i64 b, .string t], .int .i64 0]) ∧ HPost w F g ⟨apT s ⟨a, b, t⟩, v + 1, R ++ [inv s ⟨a, b, t⟩], L⟩ w' := by
  have hg := K.lt
  have hfl : ∀ k, vf.ownBlock = some k → k < w.heap.size := fun k hk => own_lt hf hk
  have htl : ∀ k, vt.ownBlock = some k → k < w.heap.size := fun k hk => own_lt ho hk
  have hfg := own_blk_ne hf K (by decide)
  have htg := own_blk_ne ho K (by decide)
  obtain ⟨⟨ip, id, ii⟩, hI⟩ : ∃ e, inv s ⟨a, b, t⟩ = e := ⟨_, rfl⟩
  have K1 := K.alloc (.cells #[.int .i64 0, .int .i64 0, .string ⟨#[]⟩] 31)
  have R1 := Blk.new' w 31 #[.int .i64 0, .int .i64 0, .string ⟨#[]⟩] rfl
  have hf1 := own_below hf ((Below.refl w.heap.size w).alloc (Nat.le_refl _) (.cells #[.int .i64 0, .int .i64 0, .string ⟨#[]⟩] 31))
  have ho1 := own_below ho ((Below.refl w.heap.size w).alloc (Nat.le_refl _) (.cells #[.int .i64 0, .int .i64 0, .string ⟨#[]⟩] 31))
  have T1 : Touch (fun k => k = g ∨ vt.ownBlock = some k) w (w.alloc (.cells #[.int .i64 0, .int .i64 0, .string ⟨#[]⟩] 31)) := (Touch.refl _ _).alloc _
  have HF := Lib.hid (show F g ∧ (∀ k, vf.ownBlock = some k → F k) ∧ (∀ k, vt.ownBlock = some k → F k) ∧ (∀ k, vf.ownBlock = some k → vt.ownBlock ≠ some k) from ⟨hFg, hFf, hFt, hx⟩)
  have HL := Lib.hid (show (∀ k, vf.ownBlock = some k → k < w.heap.size) ∧ (∀ k, vt.ownBlock = some k → k < w.heap.size) ∧ vf.ownBlock ≠ some g ∧ vt.ownBlock ≠ some g from ⟨hfl, htl, hfg, htg⟩)
  have HI := Lib.hid hI
  have HK := Lib.hid K1
  have HF1 := Lib.hid hf1
  have HO1 := Lib.hid ho1
  clear K K1 hf ho hf1 ho1 hFg hFf hFt hx hfl htl hfg htg hI
  go_enter Try.func30, Try.ntmps30
  go_wp2_with fail
  refine (pop_some g 3 _ vf L a b t _ HK.out rfl HF1.out (by omega)).mono ?_
  rintro e w1 ⟨rfl, vf', hf2, K2, hvf, T2⟩
  have hs1 := T2.size
  simp only [World.size_alloc] at hs1
  have R2 := R1.touch T2 (by omega)
  have ho2 := own_touch HO1.out T2 (fun k hk e => HL.out.2.2.2 (by subst e; exact hk))
  have T12 : Touch (fun k => k = g ∨ vt.ownBlock = some k) w w1 := T1.trans T2 (fun k hk => .inl (.inl hk))
  simp only [List.setIfInBounds_toArray, List.set_cons_zero, List.set_cons_succ] at K2
  have K3 := K2.alloc (.cells #[.int .i64 a, .int .i64 b, .string t] 31)
  have N3 := Blk.new' w1 31 #[.int .i64 a, .int .i64 b, .string t] rfl
  have hf3 := own_below hf2 ((Below.refl w1.heap.size w1).alloc (Nat.le_refl _) (.cells #[.int .i64 a, .int .i64 b, .string t] 31))
  have ho3 := own_below ho2 ((Below.refl w1.heap.size w1).alloc (Nat.le_refl _) (.cells #[.int .i64 a, .int .i64 b, .string t] 31))
  have T13 := T12.alloc (.cells #[.int .i64 a, .int .i64 b, .string t] 31)
  have R3 := R2.alloc (.cells #[.int .i64 a, .int .i64 b, .string t] 31)
  have HK3 := Lib.hid K3
  have HF3 := Lib.hid hf3
  have HO3 := Lib.hid ho3
  have HVF := Lib.hid hvf
  clear K2 K3 hf2 hf3 ho2 ho3 hvf T1 T2 T12 R1 R2
  go_wp2_with fail
  refine (applyH_any g v s _ _ a b t _ HK3.out hs ht hv).mono ?_
  rw [HI.out]
  rintro e w2 ⟨rfl, K4, T4⟩
  have hs2 := T4.size
  simp only [World.size_alloc] at hs2
  have N4 := N3.touch T4 (by omega)
  have R4 := R3.touch T4 (by omega)
  have hf4 := own_touch HF3.out T4 (fun k hk e => HL.out.2.2.1 (by subst e; exact HVF.out.symm.trans hk))
  have ho4 := own_touch HO3.out T4 (fun k hk e => HL.out.2.2.2 (by subst e; exact hk))
  have T14 := T13.trans T4 (fun k hk => .inl (.inl hk))
  have HK4 := Lib.hid K4
  have HO4 := Lib.hid ho4
  have HF4 := Lib.hid hf4
  clear T4 T13 N3 R3 K4 ho4 hf4
  go_wp2_with fail
  refine (push_any g 2 _ vt R ip id ii _ HK4.out rfl HO4.out (by omega)).mono ?_
  rintro e w3 ⟨rfl, gg, cap, ho5, K5, hat, T5⟩
  have hs3 := T5.size
  have hN : ¬ (w1.heap.size = g ∨ vt.ownBlock = some w1.heap.size) := by
    rintro (h | h)
    · omega
    · have := HL.out.2.1 _ h; omega
  have hRn : ¬ (w.heap.size = g ∨ vt.ownBlock = some w.heap.size) := by
    rintro (h | h)
    · omega
    · have := HL.out.2.1 _ h; omega
  have N5 := N4.touch T5 hN
  have R5 := R4.touch T5 hRn
  have hf5 := own_touch HF4.out T5 (fun k hk => by
    rintro (h | h)
    · exact HL.out.2.2.1 (by subst h; exact HVF.out.symm.trans hk)
    · exact HF.out.2.2.2 k (HVF.out.symm.trans hk) h)
  have T15 := T14.trans T5 (fun k hk => .inl hk)
  simp only [List.setIfInBounds_toArray, List.set_cons_zero, List.set_cons_succ] at K5
  have n0 := N5.cell 0
  have n1 := N5.cell 1
  have n2 := N5.cell 2
  have r0 := R5.cell 0
  have r1 := R5.cell 1
  have r2 := R5.cell 2
  have f0 := R5.frozen 0
  have f1 := R5.frozen 1
  have f2 := R5.frozen 2
  simp at n0 n1 n2 r0 r1 r2
  have HK5 := Lib.hid K5
  have HF5 := Lib.hid hf5
  have HO5 := Lib.hid ho5
  have HAT := Lib.hid hat
  clear K5 hf5 ho5 hat T14 T5 N4 R4
  go_wp2_with fail
  have R6 := R5.set3 (.int .i64 a) (.int .i64 b) (.string t)
  refine bodyPost_ret (results_edit_int rfl rfl (R6.cell 0) (R6.cell 1) (R6.cell 2) rfl) rfl ⟨rfl, ?_⟩
  have hgN : g ≠ w.heap.size := by omega
  have TR : Touch (fun k => k = w.heap.size) w3 (((w3.setCell ⟨w.heap.size, 0, none⟩ (.int .i64 a)).setCell ⟨w.heap.size, 1, none⟩ (.int .i64 b)).setCell ⟨w.heap.size, 2, none⟩ (.string t)) :=
    (((Touch.refl (fun k => k = w.heap.size) w3).setCell (p := ⟨w.heap.size, 0, none⟩) (.inl rfl) _).setCell (p := ⟨w.heap.size, 1, none⟩) (.inl rfl) _).setCell (p := ⟨w.heap.size, 2, none⟩) (.inl rfl) _
  have hgg : gg ≠ w.heap.size := by
    rcases HAT.out with h | h
    · have := HL.out.2.1 _ h; omega
    · omega
  have hK7 := HK5.out.touch TR hgN
  have hF7 := own_touch HF5.out TR (fun k hk e => by
    have := HL.out.1 k (HVF.out.symm.trans hk)
    omega)
  have hO7 := own_touch HO5.out TR (fun k hk e => by
    have : gg = k := by simpa [Value.ownBlock] using hk
    omega)
  have hT7 := T15.trans TR (fun k hk => by right; omega)
  refine ⟨fun k => F k ∨ w.heap.size ≤ k, ?_, hT7.mono ?_, fun k hk => hk⟩
  · have c1 : ∀ k, vf'.ownBlock = some k → F k ∨ w.heap.size ≤ k := fun k hk => .inl (HF.out.2.1 k (HVF.out.symm.trans hk))
    have c2 : ∀ k, (Value.slice (some ⟨gg, 0, none⟩) (R ++ [(⟨ip, id, ii⟩ : Ed)]).length cap).ownBlock = some k → F k ∨ w.heap.size ≤ k := by
      intro k hk
      have : gg = k := by simpa [Value.ownBlock] using hk
      subst this
      rcases HAT.out with h | h
      · exact .inl (HF.out.2.2.1 _ h)
      · right; omega
    have c3 : vf'.ownBlock ≠ some gg := by
      intro hk
      have h0 := HVF.out.symm.trans hk
      rcases HAT.out with h | h
      · exact HF.out.2.2.2 _ h0 h
      · have := HL.out.1 _ h0; omega
    rw [← HI.out] at *
    exact ⟨_, vf', hK7, hO7, hF7, .inl HF.out.1, c2, c1, fun k hk e => c3 (by
      have : gg = k := by simpa [Value.ownBlock] using hk
      rw [this]; exact e)⟩
  · rintro k (h | h)
    · rw [h]; exact HF.out.1
    · exact HF.out.2.2.1 k h
end Go.Proofs.Ytepohmklbfkdfaa
