/- Do. -/
import Derived.Test.YtibdcnmaodmghaaGreatDoorUb
section
namespace Go.Proofs.YtibdcnmaodmghaaGreatDoor
open Go.RowKit
set_option maxRecDepth 20000

set_option maxRecDepth 100000 in
set_option maxHeartbeats 4000000 in
theorem do_any (F : Nat → Prop) (g : Nat) (h : HS) (a b : Int) (s : ByteArray) (w : World) (hh : Hist w F g h) (hs : h.Small 1048576 900) (hsz : s.size ≤ 1048576) (hv : h.v ≤ 1000000) :
    Calls Tryz.prog 15 #[.pointer (some ⟨g, 0, none⟩), .agg #[.int .i64 a, .int .i64 b, .string s]] w
      fun e w' => e = .returned (.int .i64 (doE h ⟨a, b, s⟩)) ∧ HPost w F g (doH h ⟨a, b, s⟩) w' := by
  obtain ⟨F0, hF0, hh0⟩ := hh.precise
  have hw : ∀ {w'}, HPost w F0 g (doH h ⟨a, b, s⟩) w' → HPost w F g (doH h ⟨a, b, s⟩) w' := fun hp => hp.weak (fun k hk => (hF0 k hk).1)
  clear hh
  have hlt : ∀ k, F0 k → k < w.heap.size := fun k hk => (hF0 k hk).2
  obtain ⟨t, v, U, R⟩ := h
  have hhc := hh0
  obtain ⟨vu, vr, K, hu, hr, hg, fu, fr, hx⟩ := hh0
  have htz := hs.t
  have hUl := hs.u
  simp only at K hu hr hv htz hUl
  have hgl := K.lt
  have B1 := Blk.new' w 44 #[.int .i64 a, .int .i64 b, .string s] rfl
  have K1 := K.alloc (.cells #[.int .i64 a, .int .i64 b, .string s] 44)
  have hb0 : Below w.heap.size w (w.alloc (.cells #[.int .i64 a, .int .i64 b, .string s] 44)) := (Below.refl _ _).alloc (Nat.le_refl _) _
  have hu1 := own_below hu hb0
  have k0 := K1.cell 0
  simp at k0
  have HH := Lib.hid hhc
  have HK := Lib.hid K1
  have HU := Lib.hid hu1
  have HW := Lib.hid (show ∀ w', HPost w F0 g (doH ⟨t, v, U, R⟩ ⟨a, b, s⟩) w' → HPost w F g (doH ⟨t, v, U, R⟩ ⟨a, b, s⟩) w' from fun w' => hw)
  have HF := Lib.hid (show F0 g ∧ (∀ k, vu.ownBlock = some k → F0 k) ∧ (∀ k, vr.ownBlock = some k → F0 k) ∧ (∀ k, vu.ownBlock = some k → vr.ownBlock ≠ some k) from ⟨hg, fu, fr, hx⟩)
  have HLT := Lib.hid hlt
  have HUG := Lib.hid (own_blk_ne hu K (by decide))
  have HUL := Lib.hid (show ∀ k, vu.ownBlock = some k → k < w.heap.size from fun k hk => own_lt hu hk)
  clear hhc hu hr hu1 K K1 hg fu fr hx hF0 hlt hs hw
  cases hok : Ed.ok t.size ⟨a, b, s⟩ with
  | false =>
    have HE := Lib.hid (show doE ⟨t, v, U, R⟩ ⟨a, b, s⟩ = 2 ∧ doH ⟨t, v, U, R⟩ ⟨a, b, s⟩ = ⟨t, v, U, R⟩ by simp [doE, doH, hok])
    have HFF := Lib.hid (apF_no hok)
    clear hok
    rw [HE.out.1]
    rw [HE.out.2] at HW ⊢
    go_enter Tryz.func15, Tryz.ntmps15
    go_wp2_with fail
    go_region_with (go_at_call 12; refine (apply_any t a b s _ (by omega)).mono ?_; rw [HFF.out]; rintro e w1 ⟨rfl, hb1⟩)
    all_goals
      go_wp2_with fail
      have hbb : Below w.heap.size w w1 := hb0.trans (below_from_drewN (n := 1) (hb1.mono (by show w.heap.size ≤ (w.alloc _).heap.size; simp)))
      go_ret
      exact ⟨rfl, HW.out _ (HPost.same HH.out hbb)⟩
  | true =>
  obtain ⟨T, hT⟩ : ∃ T, apT t ⟨a, b, s⟩ = T := ⟨_, rfl⟩
  have HT := Lib.hid hT
  have HFF := Lib.hid (apF_ok hok)
  by_cases hbig : T.size ≤ 4000
  case neg =>
    have HE := Lib.hid (show doE ⟨t, v, U, R⟩ ⟨a, b, s⟩ = 11 ∧ doH ⟨t, v, U, R⟩ ⟨a, b, s⟩ = ⟨t, v, U, R⟩ by simp [doE, doH, hok, hT, hbig])
    have d1 : decide ((4000 : Int) < T.size) = true := by simp; omega
    have d2 : decide (4000 < T.size) = true := by simp; omega
    clear hok hT
    rw [HE.out.1]
    rw [HE.out.2] at HW ⊢
    go_enter Tryz.func15, Tryz.ntmps15
    go_wp2_with fail
    go_region_with (go_at_call 12; refine (apply_any t a b s _ (by omega)).mono ?_; rw [HFF.out, HT.out]; rintro e w1 ⟨rfl, hb1⟩)
    all_goals
      go_wp2_with fail
      have hbb : Below w.heap.size w w1 := hb0.trans (below_from_drewN (n := 1) (hb1.mono (by show w.heap.size ≤ (w.alloc _).heap.size; simp)))
      go_ret
      exact ⟨rfl, HW.out _ (HPost.same HH.out hbb)⟩
  case pos =>
    obtain ⟨⟨ip, id, ii⟩, hI⟩ : ∃ e, inv t ⟨a, b, s⟩ = e := ⟨_, rfl⟩
    have HI := Lib.hid hI
    have HE := Lib.hid (show doE ⟨t, v, U, R⟩ ⟨a, b, s⟩ = 0 ∧ doH ⟨t, v, U, R⟩ ⟨a, b, s⟩ = ⟨T, v + 1, U ++ [⟨ip, id, ii⟩], []⟩ by simp [doE, doH, hok, hT, hbig, hI])
    have d1 : decide ((4000 : Int) < T.size) = false := by simp; omega
    have d2 : decide (4000 < T.size) = false := by simp; omega
    clear hok hT hI
    rw [HE.out.1]
    rw [HE.out.2] at HW ⊢
    go_enter Tryz.func15, Tryz.ntmps15
    go_wp2_with fail
    go_region_with (go_at_call 12; refine (apply_any t a b s _ (by omega)).mono ?_; rw [HFF.out, HT.out]; rintro e w1 ⟨rfl, hb1⟩)
    all_goals
      have hbb : Below (w.heap.size + 1) (w.alloc (.cells #[.int .i64 a, .int .i64 b, .string s] 44)) w1 := below_from_drewN (n := 1) (hb1.mono (by show w.heap.size + 1 ≤ (w.alloc _).heap.size; simp))
      have hs1 := hbb.size
      simp only [World.size_alloc] at hs1
      have B2 := B1.below hbb (by omega)
      have HK2 := Lib.hid (HK.out.below hbb (by omega))
      have HU2 := Lib.hid (own_below HU.out (hbb.mono (by simp)))
      have T1 : Touch (fun k => k = g ∨ vu.ownBlock = some k) w w1 := Touch.of_below (hb0.trans (hbb.mono (by omega)))
      have b0 := B2.cell 0
      have b1 := B2.cell 1
      have b2 := B2.cell 2
      simp at b0 b1 b2
      clear hb1 k0
      go_wp2_with fail
      go_region_with (first
        | (go_at_call 44; refine (applyH_any g v t vu vr a b s _ (blk_drew HK2.out) htz hsz hv).mono ?_; rw [HI.out]; rintro e w2 ⟨rfl, K3, T2⟩; rw [HT.out] at K3; have HK3 := Lib.hid K3; have T2' : Touch (fun k => k = g) w1 w2 := ⟨T2.os, T2.tape, T2.output, T2.size, T2.block⟩; clear K3 T2; have HU3 := Lib.hid (own_touch HU2.out T2' (fun k hk e => HUG.out (e ▸ hk))))
        | (go_at_call 43; refine (push_any g 2 _ vu U ip id ii _ HK3.out rfl HU3.out (by omega)).mono ?_; rintro e w3 ⟨rfl, gg, cap, hu4, K4, hat, T3⟩; have k4 := K4.cell 3; have f4 := K4.frozen 3; simp at k4))
      all_goals
        go_wp2_with fail
        go_ret
        have hT4 := (T1.trans T2' (fun k hk => .inl (.inl hk))).trans T3 (fun k hk => .inl hk)
        have hgg : gg ≠ g := by
          rcases hat with h | h
          · intro e; exact HUG.out (e ▸ h)
          · have := T2'.size; omega
        have hK5 := K4.set_ 3 (.slice none 0 0)
        simp only [List.setIfInBounds_toArray, List.set_cons_zero, List.set_cons_succ] at hK5
        have hU5 := own_touch hu4 ((Touch.refl (fun k => k = g) w3).setCell (p := ⟨g, 3, none⟩) (.inl rfl) (.slice none 0 0)) (fun k hk e => by
          have : gg = k := by simpa [Value.ownBlock] using hk
          omega)
        have hT5 := hT4.setCell (p := ⟨g, 3, none⟩) (.inl (.inl rfl)) (.slice none 0 0)
        refine ⟨rfl, HW.out _ ⟨fun k => F0 k ∨ w.heap.size ≤ k, ⟨_, _, hK5, hU5, World.ownsRow_nil _ _ _ _, .inl HF.out.1, ?_, by simp [Value.ownBlock], by simp [Value.ownBlock]⟩, hT5.mono ?_, fun k hk => hk⟩⟩
        · intro k hk
          have : gg = k := by simpa [Value.ownBlock] using hk
          subst this
          rcases hat with h | h
          · exact .inl (HF.out.2.1 _ h)
          · right; have := T2'.size; omega
        · rintro k (h | h)
          · rw [h]; exact HF.out.1
          · exact HF.out.2.1 k h
end Go.Proofs.YtibdcnmaodmghaaGreatDoor
end
