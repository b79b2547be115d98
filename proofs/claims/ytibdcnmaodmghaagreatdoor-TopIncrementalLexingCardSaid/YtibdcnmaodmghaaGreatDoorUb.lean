/- An edit is applied; one is taken back. -/
import Derived.Test.YtibdcnmaodmghaaGreatDoorUa
import Derived.Deep.RegionWith
section
namespace Go.Proofs.YtibdcnmaodmghaaGreatDoor
open Go.RowKit
set_option maxRecDepth 20000

theorem results_edit {fn : Func} {p : Tmp} (h : fn.results = #[.cell p 44]) {tmps : Array Value} {b o : Nat} (hp : tmps.getD p undef = .pointer (some ⟨b, o, none⟩)) {w : World} {i j : Int} {t : ByteArray}
    (h0 : w.cell? ⟨b, o, none⟩ = some (.int .i64 i)) (h1 : w.cell? ⟨b, o + 1, none⟩ = some (.int .i64 j)) (h2 : w.cell? ⟨b, o + 2, none⟩ = some (.string t)) :
    (results fn tmps).run Tryz.prog w = .ok (.agg #[.int .i64 i, .int .i64 j, .string t]) w := by
  rw [results_cell h tmps _ hp]
  simp [go_sem, h0, h1, h2]
def Applied (w : World) (g v : Nat) (s : ByteArray) (e : Ed) (vu vr : Value) (w' : World) : Prop :=
  Blk w' g 119 #[.string (apT s e), .int .i64 ((v : Int) + 1), vu, vr] ∧ Touch (fun k => k = g) w w'

theorem Below.size_le {B N : Nat} {w w' : World} (h : Below B w w') (hN : N ≤ w.heap.size) : N ≤ w'.heap.size := Nat.le_trans hN h.size
theorem size_al {w : World} {N : Nat} {o : Obj} (h : N ≤ w.heap.size) : N ≤ (w.alloc o).drew.heap.size := by show N ≤ (w.alloc o).heap.size; simp; omega
theorem newcells {w w2 : World} (hb : Below (w.alloc (.cells #[.int .i64 0, .int .i64 0, .string ⟨#[]⟩] 44)).drew.heap.size (w.alloc (.cells #[.int .i64 0, .int .i64 0, .string ⟨#[]⟩] 44)).drew w2) :
    w2.cell? ⟨w.heap.size, 0, none⟩ = some (.int .i64 0) ∧ w2.cell? ⟨w.heap.size, 1, none⟩ = some (.int .i64 0) ∧ w2.cell? ⟨w.heap.size, 2, none⟩ = some (.string ⟨#[]⟩) ∧
    w2.frozen? ⟨w.heap.size, 0, none⟩ = false ∧ w2.frozen? ⟨w.heap.size, 1, none⟩ = false ∧ w2.frozen? ⟨w.heap.size, 2, none⟩ = false := by
  have N := ((Blk.new' w 44 #[.int .i64 0, .int .i64 0, .string ⟨#[]⟩] rfl).drewN 1).below hb (by show w.heap.size < (w.alloc _).heap.size; simp)
  exact ⟨N.cell 0, N.cell 1, N.cell 2, N.frozen 0, N.frozen 1, N.frozen 2⟩
theorem le_of_hid {n m : Nat} (h : Hid (n = m)) : m ≤ n := Nat.le_of_eq h.out.symm
theorem keepA {w w' : World} {N g : Nat} {x y z u : Value} (k0 : w.cell? ⟨g, 0, none⟩ = some u) (h0 : w.cell? ⟨N, 0, none⟩ = some x) (h1 : w.cell? ⟨N, 1, none⟩ = some y) (h2 : w.cell? ⟨N, 2, none⟩ = some z) (hg : g < N) (hb : Below (N + 1 + 1) w w') :
    w'.cell? ⟨g, 0, none⟩ = some u ∧ w'.cell? ⟨N, 0, none⟩ = some x ∧ w'.cell? ⟨N, 1, none⟩ = some y ∧ w'.cell? ⟨N, 2, none⟩ = some z ∧ Below (N + 1 + 1) w w' :=
  ⟨(hb.cell (p := ⟨g, 0, none⟩) (by show g < N + 1 + 1; omega)).trans k0, (hb.cell (p := ⟨N, 0, none⟩) (by show N < N + 1 + 1; omega)).trans h0, (hb.cell (p := ⟨N, 1, none⟩) (by show N < N + 1 + 1; omega)).trans h1, (hb.cell (p := ⟨N, 2, none⟩) (by show N < N + 1 + 1; omega)).trans h2, hb⟩

set_option maxRecDepth 100000 in
set_option maxHeartbeats 4000000 in
theorem applyH_any (g v : Nat) (s : ByteArray) (vu vr : Value) (a b : Int) (t : ByteArray) (w : World) (K : Blk w g 119 #[.string s, .int .i64 v, vu, vr]) (hs : s.size ≤ 1048576) (ht : t.size ≤ 1048576) (hv : v ≤ 1000000) :
    Calls Tryz.prog 44 #[.pointer (some ⟨g, 0, none⟩), .agg #[.int .i64 a, .int .i64 b, .string t]] w
      fun e w' => e = .returned (.agg #[.int .i64 (inv s ⟨a, b, t⟩).pos, .int .i64 (inv s ⟨a, b, t⟩).del, .string (inv s ⟨a, b, t⟩).ins]) ∧ Applied w g v s ⟨a, b, t⟩ vu vr w' := by
  have hg := K.lt
  obtain ⟨⟨ip, id, ii⟩, hI⟩ : ∃ e, inv s ⟨a, b, t⟩ = e := ⟨_, rfl⟩
  obtain ⟨T, hT⟩ : ∃ T, apT s ⟨a, b, t⟩ = T := ⟨_, rfl⟩
  rw [hI]
  have HI := Lib.hid hI
  have HT := Lib.hid hT
  have B1 := (Blk.new' w 44 #[.int .i64 a, .int .i64 b, .string t] rfl).alloc (.cells #[.int .i64 0, .int .i64 0, .string ⟨#[]⟩] 44)
  have R1 := Blk.new' (g := w.heap.size + 1) (w.alloc (.cells #[.int .i64 a, .int .i64 b, .string t] 44)) 44 #[.int .i64 0, .int .i64 0, .string ⟨#[]⟩] (by simp)
  have K1 := (K.alloc (.cells #[.int .i64 a, .int .i64 b, .string t] 44)).alloc (.cells #[.int .i64 0, .int .i64 0, .string ⟨#[]⟩] 44)
  have hb1 : Below w.heap.size w ((w.alloc (.cells #[.int .i64 a, .int .i64 b, .string t] 44)).alloc (.cells #[.int .i64 0, .int .i64 0, .string ⟨#[]⟩] 44)) := ((Below.refl _ _).alloc (Nat.le_refl _) _).alloc (by simp) _
  obtain ⟨W1, hW1⟩ : ∃ W1, W1 = (w.alloc (.cells #[.int .i64 a, .int .i64 b, .string t] 44)).alloc (.cells #[.int .i64 0, .int .i64 0, .string ⟨#[]⟩] 44) := ⟨_, rfl⟩
  have hz1 : W1.heap.size = w.heap.size + 1 + 1 := by rw [hW1]; simp
  rw [← hW1] at B1 R1 K1 hb1
  have k0 := K1.cell 0
  have b0 := B1.cell 0
  have b1 := B1.cell 1
  have b2 := B1.cell 2
  simp at k0 b0 b1 b2
  have WAIT := Lib.hid hW1
  have Z1 := Lib.hid hz1
  clear hI hT hW1 hz1 K
  go_enter Tryz.func44, Tryz.ntmps44
  go_wp2_with fail
  rw [← WAIT.out]
  go_region_held3 (fun w' => w'.cell? ⟨g, 0, none⟩ = some (.string s) ∧ w'.cell? ⟨w.heap.size, 0, none⟩ = some (.int .i64 a) ∧ w'.cell? ⟨w.heap.size, 1, none⟩ = some (.int .i64 b) ∧ w'.cell? ⟨w.heap.size, 2, none⟩ = some (.string t) ∧ Below (w.heap.size + 1 + 1) W1 w')
    (first | exact keepA k0 b0 b1 b2 hg ((Below.refl _ _).drew) | exact keepA k0 b0 b1 b2 hg (((Below.refl _ W1).alloc (le_of_hid Z1) _).drew) | exact keepA k0 b0 b1 b2 hg X3 | exact keepA k0 b0 b1 b2 hg (X3.alloc X3z _) | exact keepA k0 b0 b1 b2 hg (((X3.setCell (le_of_hid Z1) _).setCell (le_of_hid Z1) _).setCell (le_of_hid Z1) _))
    (first | (go_at_call 85; refine (invert_any s a b t _ (by omega) (by omega)).mono ?_; rw [HI.out]; rintro e w2 ⟨rfl, hb2⟩; have X3 : Below (w.heap.size + 1 + 1) W1 w2 := ((Below.refl _ W1).drew).trans (hb2.mono (le_of_hid Z1)); have X3z : w.heap.size + 1 + 1 ≤ w2.heap.size := Below.size_le X3 (le_of_hid Z1)) | (go_at_call 85; refine (invert_any s a b t _ (by omega) (by omega)).mono ?_; rw [HI.out]; rintro e w2 ⟨rfl, hb2⟩; have X3 : Below (w.heap.size + 1 + 1) W1 w2 := (((Below.refl _ W1).alloc (le_of_hid Z1) _).drew).trans (hb2.mono (size_al (le_of_hid Z1))); have X3z : w.heap.size + 1 + 1 ≤ w2.heap.size := Below.size_le X3 (le_of_hid Z1); obtain ⟨n0, n1, n2, m0, m1, m2⟩ := newcells hb2))
  all_goals first
    | (have Q1 := (((Blk.new' (g := W1.heap.size) W1 44 #[.int .i64 0, .int .i64 0, .string ⟨#[]⟩] rfl).drewN 1).below hb2 (by show W1.heap.size < (W1.alloc _).heap.size; simp)).set3 (.int .i64 ip) (.int .i64 id) (.string ii)
       have Q2 := ((X3.setCell (p := ⟨W1.heap.size, 0, none⟩) (le_of_hid Z1) (.int .i64 ip)).setCell (p := ⟨W1.heap.size, 1, none⟩) (le_of_hid Z1) (.int .i64 id)).setCell (p := ⟨W1.heap.size, 2, none⟩) (le_of_hid Z1) (.string ii)
       have Q3 := le_of_hid Z1
       generalize ((w2.setCell ⟨W1.heap.size, 0, none⟩ (.int .i64 ip)).setCell ⟨W1.heap.size, 1, none⟩ (.int .i64 id)).setCell ⟨W1.heap.size, 2, none⟩ (.string ii) = W3 at *
       generalize W1.heap.size = n5 at *
       clear X3 X3z hb2 n0 n1 n2 m0 m1 m2)
    | (have Q1 := Blk.new' (g := w2.heap.size) w2 44 #[.int .i64 ip, .int .i64 id, .string ii] rfl
       have Q2 := X3.alloc X3z (.cells #[.int .i64 ip, .int .i64 id, .string ii] 44)
       have Q3 := X3z
       generalize w2.alloc (.cells #[.int .i64 ip, .int .i64 id, .string ii] 44) = W3 at *
       generalize w2.heap.size = n5 at *
       clear X3 X3z hb2)
  all_goals
    have K3 := K1.below Q2 (by omega)
    have B3 := B1.below Q2 (by omega)
    have R3 := R1.below Q2 (by omega)
    have hs3 := Q1.lt
    clear k0 b0 b1 b2
    have k0 := K3.cell 0
    have b0 := B3.cell 0
    have b1 := B3.cell 1
    have b2 := B3.cell 2
    simp at k0 b0 b1 b2
    go_wp2_with fail
    go_region_with (go_at_call 12; refine (apply_any s a b t _ (by omega)).mono ?_; rw [HT.out]; rintro e w4 ⟨rfl, hb4⟩; have K4 := (K3.drewN 1).below hb4 (by show g < W3.heap.size; omega); have k4 := K4.cell 0; have f4 := K4.frozen 0; simp at k4)
    all_goals
      have hs4 := hb4.size
      have hs4' : W3.heap.size ≤ w4.heap.size := hs4
      have hgN : g ≠ w.heap.size + 1 := by omega
      have hgn : g ≠ n5 := by omega
      have hne : n5 ≠ w.heap.size + 1 := by omega
      have K5 := K4.set_ 0 (.string T)
      simp only [List.setIfInBounds_toArray, List.set_cons_zero] at K5
      have Q5 := ((Q1.drewN 1).below hb4 hs3).far (p := ⟨g, 0, none⟩) (Ne.symm hgn) (.string T)
      have R5 := ((R3.drewN 1).below hb4 (by show w.heap.size + 1 < W3.heap.size; omega)).far (p := ⟨g, 0, none⟩) (Ne.symm hgN) (.string T)
      have k5 := K5.cell 1
      have f5 := K5.frozen 1
      have Q6 := Q5.far (p := ⟨g, 1, none⟩) (Ne.symm hgn) (.int .i64 ((v : Int) + 1))
      have R6 := R5.far (p := ⟨g, 1, none⟩) (Ne.symm hgN) (.int .i64 ((v : Int) + 1))
      have q0 := Q6.cell 0
      have q1 := Q6.cell 1
      have q2 := Q6.cell 2
      have r0 := R6.cell 0
      have r1 := R6.cell 1
      have r2 := R6.cell 2
      have e0 := R6.frozen 0
      have e1 := R6.frozen 1
      have e2 := R6.frozen 2
      simp at k5 q0 q1 q2 r0 r1 r2
      have hv1 : IntKind.i64.wrap ((v : Int) + 1) = (v : Int) + 1 := IntWalk.i64_in _ (by omega)
      clear k0 b0 b1 b2 hs4
      go_wp2_with fail
    all_goals
      have R7 := R6.set3 (.int .i64 ip) (.int .i64 id) (.string ii)
      have K6 := K5.set_ 1 (.int .i64 ((v : Int) + 1))
      simp only [List.setIfInBounds_toArray, List.set_cons_zero, List.set_cons_succ] at K6
      have K7 := ((K6.far (p := ⟨w.heap.size + 1, 0, none⟩) hgN (.int .i64 ip)).far (p := ⟨w.heap.size + 1, 1, none⟩) hgN (.int .i64 id)).far (p := ⟨w.heap.size + 1, 2, none⟩) hgN (.string ii)
      have hbw : Below w.heap.size w w4 := (hb1.trans (Q2.mono (by omega))).trans (below_from_drewN (n := 1) (hb4.mono (by show w.heap.size ≤ W3.heap.size; omega)))
      have T1 : Touch (fun k => k = g) w w4 := Touch.of_below hbw
      have T2 := (T1.setCell (p := ⟨g, 0, none⟩) (.inl rfl) (.string T)).setCell (p := ⟨g, 1, none⟩) (.inl rfl) (.int .i64 ((v : Int) + 1))
      have T3 := ((T2.setCell (p := ⟨w.heap.size + 1, 0, none⟩) (.inr (Nat.le_succ _)) (.int .i64 ip)).setCell (p := ⟨w.heap.size + 1, 1, none⟩) (.inr (Nat.le_succ _)) (.int .i64 id)).setCell (p := ⟨w.heap.size + 1, 2, none⟩) (.inr (Nat.le_succ _)) (.string ii)
      refine bodyPost_ret (results_edit rfl rfl (R7.cell 0) (R7.cell 1) (R7.cell 2)) rfl ⟨rfl, ?_, T3⟩
      rw [HT.out]
      exact K7
end Go.Proofs.YtibdcnmaodmghaaGreatDoor
end

section
namespace Go.Proofs.YtibdcnmaodmghaaGreatDoor
open Go.RowKit
set_option maxRecDepth 20000

end Go.Proofs.YtibdcnmaodmghaaGreatDoor
end

section
namespace Go.Proofs.YtibdcnmaodmghaaGreatDoor
open Go.RowKit
set_option maxRecDepth 20000

theorem HPost.weak {F0 F : Nat → Prop} {w w' : World} {g : Nat} {h : HS} (hp : HPost w F0 g h w') (hF : ∀ k, F0 k → F k) : HPost w F g h w' := by
  obtain ⟨G, h1, h2, h3⟩ := hp
  exact ⟨G, h1, h2.mono hF, fun k hk => (h3 k hk).imp (hF k) id⟩
/-- Behind the call the result's block is written; the history is not touched. -/
theorem HPost.out {F : Nat → Prop} {w w1 w2 : World} {g : Nat} {h : HS} {o : Obj} (hp : HPost (w.alloc o) F g h w1) (hF : ∀ k, F k → k < w.heap.size) (ht : Touch (fun k => k = w.heap.size) w1 w2) : HPost w F g h w2 := by
  obtain ⟨G, h1, h2, h3⟩ := hp
  have hG : ∀ k, G k → F k ∨ w.heap.size + 1 ≤ k := fun k hk => by have := h3 k hk; simpa using this
  refine ⟨G, h1.touch ht (fun k hk e => ?_), (((Touch.refl F w).alloc o).trans h2 (fun k hk => .inl hk)).trans ht (fun k hk => by right; omega), fun k hk => (hG k hk).imp id (fun h => by omega)⟩
  rcases hG k hk with h | h
  · have := hF k h; omega
  · omega
theorem HPost.drew {F : Nat → Prop} {w w1 : World} {g : Nat} {h : HS} (hp : HPost w.drew F g h w1) : HPost w F g h w1 := by
  obtain ⟨G, h1, h2, h3⟩ := hp
  exact ⟨G, h1, ⟨h2.os, h2.tape, h2.output, h2.size, h2.block⟩, h3⟩
theorem set3_touch {w : World} {N : Nat} (x y z : Value) : Touch (fun k => k = N) w (((w.setCell ⟨N, 0, none⟩ x).setCell ⟨N, 1, none⟩ y).setCell ⟨N, 2, none⟩ z) :=
  (((Touch.refl (fun k => k = N) w).setCell (p := ⟨N, 0, none⟩) (.inl rfl) _).setCell (p := ⟨N, 1, none⟩) (.inl rfl) _).setCell (p := ⟨N, 2, none⟩) (.inl rfl) _
theorem HPost.same {F : Nat → Prop} {w w' : World} {g : Nat} {h : HS} (hh : Hist w F g h) (hb : Below w.heap.size w w') : HPost w F g h w' := ⟨F, hh.below hb, Touch.of_below hb, fun _ hk => .inl hk⟩
theorem own_drew {w : World} {base : Nat} {e : TypeId} {size n : Nat} {v : Value} {xs : List Value} (h : w.ownsRow base e size v n xs) : w.drew.ownsRow base e size v n xs := h
theorem blk_drew {w : World} {g : Nat} {t : TypeId} {cs : Array Value} (h : Blk w g t cs) : Blk w.drew g t cs := h
theorem res_keep {F : Nat → Prop} {w w1 : World} {g : Nat} {h : HS} {cs : Array Value} {t : TypeId} (hp : HPost (w.alloc (.cells cs t)) F g h w1) (hF : ∀ k, F k → k < w.heap.size) : Blk w1 w.heap.size t cs := by
  obtain ⟨G, h1, h2, h3⟩ := hp
  exact (Blk.new' w t cs rfl).touch h2 (fun hk => by have := hF _ hk; omega)

end Go.Proofs.YtibdcnmaodmghaaGreatDoor
end
