/- Undo and Redo on a history in memory. -/
import Derived.Test.YtepohmklbfkdfaaUMove
namespace Go.Proofs.Ytepohmklbfkdfaa
open Go.RowKit

theorem HPost.weak {F0 F : Nat → Prop} {w w' : World} {g : Nat} {h : HS} (hp : HPost w F0 g h w') (hF : ∀ k, F0 k → F k) : HPost w F g h w' := by
  obtain ⟨G, h1, h2, h3⟩ := hp
  exact ⟨G, h1, h2.mono hF, fun k hk => (h3 k hk).imp (hF k) id⟩
/-- Behind the call the result's block is written; the history is not touched. -/
theorem HPost.out {F : Nat → Prop} {w w1 w2 : World} {g : Nat} {h : HS} {o : Obj} (hp : HPost (w.alloc o) F g h w1) (hF : ∀ k, F k → k < w.heap.size) (ht : Touch (fun k => k = w.heap.size) w1 w2) : HPost w F g h w2 := by
  obtain ⟨G, h1, h2, h3⟩ := hp
  have hG : ∀ k, G k → F k ∨ w.heap.size + 1 ≤ k := fun k hk => by have := h3 k hk; simpa using this
  refine ⟨G, h1.touch ht (fun k hk e => ?_), (((Touch.refl F w).alloc o).trans h2 (fun k hk => .inl hk)).trans ht (fun k hk => by right; omega), fun k hk => (hG k hk).imp id (fun h => by omega)⟩
  rcases hG k hk with h | h
  · have := hF k h; omega
  · omega
theorem HPost.drew {F : Nat → Prop} {w w1 : World} {g : Nat} {h : HS} (hp : HPost w.drew F g h w1) : HPost w F g h w1 := by
  obtain ⟨G, h1, h2, h3⟩ := hp
  exact ⟨G, h1, ⟨h2.os, h2.tape, h2.output, h2.size, h2.block⟩, h3⟩
theorem set3_touch {w : World} {N : Nat} (x y z : Value) : Touch (fun k => k = N) w (((w.setCell ⟨N, 0, none⟩ x).setCell ⟨N, 1, none⟩ y).setCell ⟨N, 2, none⟩ z) :=
  (((Touch.refl (fun k => k = N) w).setCell (p := ⟨N, 0, none⟩) (.inl rfl) _).setCell (p := ⟨N, 1, none⟩) (.inl rfl) _).setCell (p := ⟨N, 2, none⟩) (.inl rfl) _
theorem HPost.same {F : Nat → Prop} {w w' : World} {g : Nat} {h : HS} (hh : Hist w F g h) (hb : Below w.heap.size w w') : HPost w F g h w' := ⟨F, hh.below hb, Touch.of_below hb, fun _ hk => .inl hk⟩
theorem own_drew {w : World} {base : Nat} {e : TypeId} {size n : Nat} {v : Value} {xs : List Value} (h : w.ownsRow base e size v n xs) : w.drew.ownsRow base e size v n xs := h
theorem blk_drew {w : World} {g : Nat} {t : TypeId} {cs : Array Value} (h : Blk w g t cs) : Blk w.drew g t cs := h
theorem res_keep {F : Nat → Prop} {w w1 : World} {g : Nat} {h : HS} {cs : Array Value} {t : TypeId} (hp : HPost (w.alloc (.cells cs t)) F g h w1) (hF : ∀ k, F k → k < w.heap.size) : Blk w1 w.heap.size t cs := by
  obtain ⟨G, h1, h2, h3⟩ := hp
  exact (Blk.new' w t cs rfl).touch h2 (fun hk => by have := hF _ hk; omega)

set_option maxRecDepth 100000 in
set_option maxHeartbeats 4000000 in
theorem undo_any (F : Nat → Prop) (g : Nat) (h : HS) (w : World) (hh : Hist w F g h) (hs : h.Small 1048576 900) (hv : h.v ≤ 1000000) :
    Calls Try.prog 20 #[.pointer (some ⟨g, 0, none⟩)] w
      fun e w' => e = .returned (.tuple #[.agg #[.int .i64 (undoX h).pos, .int .i64 (undoX h).del, .string (undoX h).ins], .int .i64 (undoE h)]) ∧ HPost w F g (undoH h) w' := by
  obtain ⟨F0, hF0, hh0⟩ := hh.precise
  have hw : ∀ {w'}, HPost w F0 g (undoH h) w' → HPost w F g (undoH h) w' := fun hp => hp.weak (fun k hk => (hF0 k hk).1)
  clear hh
  have hlt : ∀ k, F0 k → k < w.heap.size := fun k hk => (hF0 k hk).2
  obtain ⟨t, v, U, R⟩ := h
  have hhc := hh0
  obtain ⟨vu, vr, K, hu, hr, hg, fu, fr, hx⟩ := hh0
  simp only at K hu hr hv
  have hgl := K.lt
  have R1 := Blk.new' w 31 #[.int .i64 0, .int .i64 0, .string ⟨#[]⟩] rfl
  have K1 := K.alloc (.cells #[.int .i64 0, .int .i64 0, .string ⟨#[]⟩] 31)
  have hb0 : Below w.heap.size w (w.alloc (.cells #[.int .i64 0, .int .i64 0, .string ⟨#[]⟩] 31)) := (Below.refl _ _).alloc (Nat.le_refl _) _
  have hu1 := own_below hu hb0
  have hr1 := own_below hr hb0
  rcases List.eq_nil_or_concat U with e0 | ⟨L, x, e0⟩
  · subst e0
    obtain ⟨A, c, hA, _⟩ := own_form hu1
    simp only [List.length_nil] at hA
    have HK := Lib.hid K1
    have HC := Lib.hid (show (#[Value.string t, .int .i64 v, vu, vr])[2]? = some (.slice A 0 c) by rw [hA]; rfl)
    have RZ := Lib.hid (show w.heap.size < (w.alloc (.cells #[.int .i64 0, .int .i64 0, .string ⟨#[]⟩] 31)).drew.heap.size from by show w.heap.size < (w.alloc _).heap.size; simp)
    have HH := Lib.hid hhc
    have HW := Lib.hid (show ∀ w', HPost w F0 g ⟨t, v, [], R⟩ w' → HPost w F g ⟨t, v, [], R⟩ w' from fun w' => hw)
    clear hhc hu hr hu1 hr1 K K1 hA hg fu fr hx hF0 hlt hs hw
    go_enter Try.func20, Try.ntmps20
    go_wp2_with fail
    go_region_with (go_at_call 30; refine (move_none g 2 3 _ A c _ (blk_drew HK.out) HC.out).mono ?_; rintro e w1 ⟨rfl, hb1⟩; have R2 := (blk_drew R1).below hb1 RZ.out; have r0 := R2.cell 0; have r1 := R2.cell 1; have r2 := R2.cell 2; have f0 := R2.frozen 0; have f1 := R2.frozen 1; have f2 := R2.frozen 2; simp at r0 r1 r2)
    all_goals
      go_wp2_with fail
      have R3 := R2.set3 (.int .i64 0) (.int .i64 0) (.string ⟨#[]⟩)
      have hbb : Below w.heap.size w w1 := hb0.trans (below_from_drewN (n := 1) (hb1.mono (by show w.heap.size ≤ (w.alloc _).heap.size; simp)))
      refine bodyPost_ret (results_edit_int rfl rfl (R3.cell 0) (R3.cell 1) (R3.cell 2) rfl) rfl ⟨rfl, ?_⟩
      exact HW.out _ (HPost.same HH.out (((hbb.setCell (Nat.le_refl _) _).setCell (Nat.le_refl _) _).setCell (Nat.le_refl _) _))
  · rw [List.concat_eq_append] at e0
    subst e0
    obtain ⟨a, b, s⟩ := x
    have hX : undoX ⟨t, v, L ++ [⟨a, b, s⟩], R⟩ = ⟨a, b, s⟩ := by simp [undoX, undoE, undoH]
    have hE : undoE ⟨t, v, L ++ [⟨a, b, s⟩], R⟩ = 0 := by simp [undoX, undoE, undoH]
    have hH : undoH ⟨t, v, L ++ [⟨a, b, s⟩], R⟩ = ⟨apT t ⟨a, b, s⟩, v + 1, L, R ++ [inv t ⟨a, b, s⟩]⟩ := by simp [undoX, undoE, undoH]
    have hsz := hs.U ⟨a, b, s⟩ (by simp)
    have htz := hs.t
    have hL := hs.u
    have hO := hs.r
    simp only [List.length_append, List.length_cons, List.length_nil] at hL hO hu1
    simp only at hsz htz
    rw [hX, hE]
    rw [hH] at hw ⊢
    have HK := Lib.hid K1
    have HU := Lib.hid hu1
    have HR := Lib.hid hr1
    have HF := Lib.hid (show F0 g ∧ (∀ k, vu.ownBlock = some k → F0 k) ∧ (∀ k, vr.ownBlock = some k → F0 k) ∧ (∀ k, vu.ownBlock = some k → vr.ownBlock ≠ some k) from ⟨hg, fu, fr, hx⟩)
    have HLT := Lib.hid hlt
    have HW := Lib.hid (show ∀ w', HPost w F0 g ⟨apT t ⟨a, b, s⟩, v + 1, L, R ++ [inv t ⟨a, b, s⟩]⟩ w' → HPost w F g ⟨apT t ⟨a, b, s⟩, v + 1, L, R ++ [inv t ⟨a, b, s⟩]⟩ w' from fun w' => hw)
    clear hhc hu hr hu1 hr1 K K1 hg fu fr hx hF0 hlt hs hX hE hH hw
    go_enter Try.func20, Try.ntmps20
    go_wp2_with fail
    go_region_with (go_at_call 30; refine (moveU_any g v t vu vr L R a b s _ F0 (blk_drew HK.out) htz hsz hv (by omega) (by omega) (own_drew HU.out) (own_drew HR.out) HF.out.1 HF.out.2.1 HF.out.2.2.1 HF.out.2.2.2).mono ?_; rintro e w1 ⟨rfl, hp⟩; have hp2 := HPost.drew hp; have R2 := res_keep hp2 HLT.out; have r0 := R2.cell 0; have r1 := R2.cell 1; have r2 := R2.cell 2; have f0 := R2.frozen 0; have f1 := R2.frozen 1; have f2 := R2.frozen 2; simp at r0 r1 r2)
    all_goals
      go_wp2_with fail
      have R3 := R2.set3 (.int .i64 a) (.int .i64 b) (.string s)
      refine bodyPost_ret (results_edit_int rfl rfl (R3.cell 0) (R3.cell 1) (R3.cell 2) rfl) rfl ⟨rfl, ?_⟩
      exact HW.out _ (hp2.out HLT.out (set3_touch _ _ _))

set_option maxRecDepth 100000 in
set_option maxHeartbeats 4000000 in
theorem redo_any (F : Nat → Prop) (g : Nat) (h : HS) (w : World) (hh : Hist w F g h) (hs : h.Small 1048576 900) (hv : h.v ≤ 1000000) :
    Calls Try.prog 21 #[.pointer (some ⟨g, 0, none⟩)] w
      fun e w' => e = .returned (.tuple #[.agg #[.int .i64 (redoX h).pos, .int .i64 (redoX h).del, .string (redoX h).ins], .int .i64 (redoE h)]) ∧ HPost w F g (redoH h) w' := by
  obtain ⟨F0, hF0, hh0⟩ := hh.precise
  have hw : ∀ {w'}, HPost w F0 g (redoH h) w' → HPost w F g (redoH h) w' := fun hp => hp.weak (fun k hk => (hF0 k hk).1)
  clear hh
  have hlt : ∀ k, F0 k → k < w.heap.size := fun k hk => (hF0 k hk).2
  obtain ⟨t, v, U, R⟩ := h
  have hhc := hh0
  obtain ⟨vu, vr, K, hu, hr, hg, fu, fr, hx⟩ := hh0
  simp only at K hu hr hv
  have hgl := K.lt
  have R1 := Blk.new' w 31 #[.int .i64 0, .int .i64 0, .string ⟨#[]⟩] rfl
  have K1 := K.alloc (.cells #[.int .i64 0, .int .i64 0, .string ⟨#[]⟩] 31)
  have hb0 : Below w.heap.size w (w.alloc (.cells #[.int .i64 0, .int .i64 0, .string ⟨#[]⟩] 31)) := (Below.refl _ _).alloc (Nat.le_refl _) _
  have hu1 := own_below hu hb0
  have hr1 := own_below hr hb0
  rcases List.eq_nil_or_concat R with e0 | ⟨L, x, e0⟩
  · subst e0
    obtain ⟨A, c, hA, _⟩ := own_form hr1
    simp only [List.length_nil] at hA
    have HK := Lib.hid K1
    have HC := Lib.hid (show (#[Value.string t, .int .i64 v, vu, vr])[3]? = some (.slice A 0 c) by rw [hA]; rfl)
    have RZ := Lib.hid (show w.heap.size < (w.alloc (.cells #[.int .i64 0, .int .i64 0, .string ⟨#[]⟩] 31)).drew.heap.size from by show w.heap.size < (w.alloc _).heap.size; simp)
    have HH := Lib.hid hhc
    have HW := Lib.hid (show ∀ w', HPost w F0 g ⟨t, v, U, []⟩ w' → HPost w F g ⟨t, v, U, []⟩ w' from fun w' => hw)
    clear hhc hu hr hu1 hr1 K K1 hA hg fu fr hx hF0 hlt hs hw
    go_enter Try.func21, Try.ntmps21
    go_wp2_with fail
    go_region_with (go_at_call 30; refine (move_none g 3 2 _ A c _ (blk_drew HK.out) HC.out).mono ?_; rintro e w1 ⟨rfl, hb1⟩; have R2 := (blk_drew R1).below hb1 RZ.out; have r0 := R2.cell 0; have r1 := R2.cell 1; have r2 := R2.cell 2; have f0 := R2.frozen 0; have f1 := R2.frozen 1; have f2 := R2.frozen 2; simp at r0 r1 r2)
    all_goals
      go_wp2_with fail
      have R3 := R2.set3 (.int .i64 0) (.int .i64 0) (.string ⟨#[]⟩)
      have hbb : Below w.heap.size w w1 := hb0.trans (below_from_drewN (n := 1) (hb1.mono (by show w.heap.size ≤ (w.alloc _).heap.size; simp)))
      refine bodyPost_ret (results_edit_int rfl rfl (R3.cell 0) (R3.cell 1) (R3.cell 2) rfl) rfl ⟨rfl, ?_⟩
      exact HW.out _ (HPost.same HH.out (((hbb.setCell (Nat.le_refl _) _).setCell (Nat.le_refl _) _).setCell (Nat.le_refl _) _))
  · rw [List.concat_eq_append] at e0
    subst e0
    obtain ⟨a, b, s⟩ := x
    have hX : redoX ⟨t, v, U, L ++ [⟨a, b, s⟩]⟩ = ⟨a, b, s⟩ := by simp [redoX, redoE, redoH, HS.swap, undoX, undoE, undoH]
    have hE : redoE ⟨t, v, U, L ++ [⟨a, b, s⟩]⟩ = 0 := by simp [redoX, redoE, redoH, HS.swap, undoX, undoE, undoH]
    have hH : redoH ⟨t, v, U, L ++ [⟨a, b, s⟩]⟩ = ⟨apT t ⟨a, b, s⟩, v + 1, U ++ [inv t ⟨a, b, s⟩], L⟩ := by simp [redoX, redoE, redoH, HS.swap, undoX, undoE, undoH]
    have hsz := hs.R ⟨a, b, s⟩ (by simp)
    have htz := hs.t
    have hL := hs.r
    have hO := hs.u
    simp only [List.length_append, List.length_cons, List.length_nil] at hL hO hr1
    simp only at hsz htz
    rw [hX, hE]
    rw [hH] at hw ⊢
    have HK := Lib.hid K1
    have HU := Lib.hid hr1
    have HR := Lib.hid hu1
    have HF := Lib.hid (show F0 g ∧ (∀ k, vu.ownBlock = some k → F0 k) ∧ (∀ k, vr.ownBlock = some k → F0 k) ∧ (∀ k, vu.ownBlock = some k → vr.ownBlock ≠ some k) from ⟨hg, fu, fr, hx⟩)
    have HLT := Lib.hid hlt
    have HW := Lib.hid (show ∀ w', HPost w F0 g ⟨apT t ⟨a, b, s⟩, v + 1, U ++ [inv t ⟨a, b, s⟩], L⟩ w' → HPost w F g ⟨apT t ⟨a, b, s⟩, v + 1, U ++ [inv t ⟨a, b, s⟩], L⟩ w' from fun w' => hw)
    clear hhc hu hr hu1 hr1 K K1 hg fu fr hx hF0 hlt hs hX hE hH hw
    go_enter Try.func21, Try.ntmps21
    go_wp2_with fail
    go_region_with (go_at_call 30; refine (moveR_any g v t vr vu L U a b s _ F0 (blk_drew HK.out) htz hsz hv (by omega) (by omega) (own_drew HU.out) (own_drew HR.out) HF.out.1 HF.out.2.2.1 HF.out.2.1 (fun k h1 h2 => HF.out.2.2.2 k h2 h1)).mono ?_; rintro e w1 ⟨rfl, hp⟩; have hp2 := HPost.drew hp; have R2 := res_keep hp2 HLT.out; have r0 := R2.cell 0; have r1 := R2.cell 1; have r2 := R2.cell 2; have f0 := R2.frozen 0; have f1 := R2.frozen 1; have f2 := R2.frozen 2; simp at r0 r1 r2)
    all_goals
      go_wp2_with fail
      have R3 := R2.set3 (.int .i64 a) (.int .i64 b) (.string s)
      refine bodyPost_ret (results_edit_int rfl rfl (R3.cell 0) (R3.cell 1) (R3.cell 2) rfl) rfl ⟨rfl, ?_⟩
      exact HW.out _ (hp2.out HLT.out (set3_touch _ _ _))
end Go.Proofs.Ytepohmklbfkdfaa
