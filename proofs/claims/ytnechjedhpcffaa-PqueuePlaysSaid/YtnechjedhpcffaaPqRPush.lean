/- The reference's queue: Push, Len, Peek. -/
import Derived.Test.YtnechjedhpcffaaPqRef
import Derived.OwnWalk
namespace Go.Proofs.Ytnechjedhpcffaa
open Go.RowKit

theorem Try.infoREnt : (Try.prog.info? 57).map (fun i => (i.zero, i.size, i.bytes)) = some (some (.agg #[.int .i64 0, .int .i64 0, .int .i64 0, .int .i64 0]), 4, 32) := by kernel_rfl
set_option maxRecDepth 100000 in
set_option maxHeartbeats 4000000 in
theorem rpush_any (w : World) (base g : Nat) (F : Nat → Prop) (L : List Ent) (nx ck : Nat) (x0 x1 : Int) (h : RQ w base F g L nx ck) (hb : base ≤ w.heap.size) (hF : ∀ k, F k → k < w.heap.size) (hL : L.length ≤ 1000000) (hnx : nx ≤ 100000000) (hck : ck ≤ 100000000) :
    Calls Try.prog 15 #[.pointer (some ⟨g, 0, none⟩), .agg #[.int .i64 x0, .int .i64 x1]] w fun e w' => e = .returned (.int .i64 nx) ∧ RQ w' base F g (L ++ [⟨x0, x1, nx, ck⟩]) (nx + 1) (ck + 1) ∧ Touch (Off base F) w w' := by
  obtain ⟨i0, hi0, hz0, hz1, hz2⟩ := info_parts Try.infoREnt
  obtain ⟨A, c, K, O, hg, hown⟩ := h
  obtain ⟨n, hn⟩ : ∃ n, L.length = n := ⟨_, rfl⟩
  rw [hn] at K O hown hL
  have HN := Lib.hid hn
  have HG := Lib.hid hg
  have HOW := Lib.hid hown
  have HFF := Lib.hid hF
  have HK := Lib.hid K
  have HO := Lib.hid O
  have hgl := K.lt
  clear K O hg hown hF hn
  go_enter Try.func15, Try.ntmps15
  go_upto_region 1 with fail
  obtain ⟨w1, hw1⟩ : ∃ w1, w.alloc (.cells #[.int .i64 x0, .int .i64 x1] 27) = w1 := ⟨_, rfl⟩
  obtain ⟨bx, hbx⟩ : ∃ bx, w.heap.size = bx := ⟨_, rfl⟩
  have HX1 : Hid (Blk w1 bx 27 #[.int .i64 x0, .int .i64 x1]) := by rw [← hw1]; exact Blk.new' w _ _ hbx
  have hb1 : Below w.heap.size w w1 := by rw [← hw1]; exact (Below.refl _ _).alloc (Nat.le_refl _) _
  have HT1 : Hid (Touch (Off base F) w w1) := Touch.of_below hb1
  have HK1 := Lib.hid (HK.out.below hb1 HK.out.lt)
  have HO1 := Lib.hid (own_below HO.out hb1)
  have hs1 : w1.heap.size = bx + 1 := by rw [← hw1, ← hbx]; simp
  rw [hw1, hbx]
  clear hw1 hb1 HK HO
  have HOA : Hid (((w1.alloc (.cells #[.int .i64 x0, .int .i64 x1, .int .i64 nx, .int .i64 ck] 57)).drew).ownsRow base 57 4 (.slice A n c) n (ents L)) := own_below HO1.out (((Below.refl _ _).alloc (Nat.le_refl _) _).drew)
  have HKA : Hid (Blk ((w1.alloc (.cells #[.int .i64 x0, .int .i64 x1, .int .i64 nx, .int .i64 ck] 57)).drew) g 41 #[.slice A n c, .int .i64 nx, .int .i64 ck]) := (HK1.out.alloc _).drewN 1
  have HXA : Hid (Blk ((w1.alloc (.cells #[.int .i64 x0, .int .i64 x1, .int .i64 nx, .int .i64 ck] 57)).drew) bx 27 #[.int .i64 x0, .int .i64 x1]) := (HX1.out.alloc _).drewN 1
  have NEWS : Hid (∀ j v, ([.int .i64 x0, .int .i64 x1, .int .i64 (nx : Nat), .int .i64 (ck : Nat)] : List Value)[j]? = some v → ((w1.alloc (.cells #[.int .i64 x0, .int .i64 x1, .int .i64 nx, .int .i64 ck] 57)).drew).cell? ((⟨w1.heap.size, 0, none⟩ : Addr).add j) = some v) :=
    World.news_of_block (Blk.new' w1 57 #[.int .i64 x0, .int .i64 x1, .int .i64 (nx : Nat), .int .i64 (ck : Nat)] rfl)
  have hsz : Hid (((w1.alloc (.cells #[.int .i64 x0, .int .i64 x1, .int .i64 nx, .int .i64 ck] 57)).drew).heap.size = w1.heap.size + 1) := by show (w1.alloc _).heap.size = _; simp
  have HZB : Hid (base ≤ ((w1.alloc (.cells #[.int .i64 x0, .int .i64 x1, .int .i64 nx, .int .i64 ck] 57)).drew).heap.size) := by show base ≤ _; rw [hsz.out]; omega
  have HTA : Hid (Touch (Off base F) w ((w1.alloc (.cells #[.int .i64 x0, .int .i64 x1, .int .i64 nx, .int .i64 ck] 57)).drew)) := (HT1.out.alloc _).drewN 1
  have HFA := Lib.hid (show w1.drew.cell? ⟨g, 0, none⟩ = some (.slice A n c) ∧ w1.drew.cell? ⟨g, 1, none⟩ = some (.int .i64 nx) ∧ w1.drew.cell? ⟨g, 2, none⟩ = some (.int .i64 ck) ∧ w1.drew.cell? ⟨bx, 0, none⟩ = some (.int .i64 x0) ∧ w1.drew.cell? ⟨bx, 1, none⟩ = some (.int .i64 x1) from ⟨HK1.out.cell 0, HK1.out.cell 1, HK1.out.cell 2, HX1.out.cell 0, HX1.out.cell 1⟩)
  have HFB := Lib.hid (show ((w1.alloc (.cells #[.int .i64 x0, .int .i64 x1, .int .i64 nx, .int .i64 ck] 57)).drew).cell? ⟨g, 0, none⟩ = some (.slice A n c) ∧ ((w1.alloc (.cells #[.int .i64 x0, .int .i64 x1, .int .i64 nx, .int .i64 ck] 57)).drew).cell? ⟨g, 1, none⟩ = some (.int .i64 nx) ∧ ((w1.alloc (.cells #[.int .i64 x0, .int .i64 x1, .int .i64 nx, .int .i64 ck] 57)).drew).cell? ⟨g, 2, none⟩ = some (.int .i64 ck) ∧ ((w1.alloc (.cells #[.int .i64 x0, .int .i64 x1, .int .i64 nx, .int .i64 ck] 57)).drew).cell? ⟨bx, 0, none⟩ = some (.int .i64 x0) ∧ ((w1.alloc (.cells #[.int .i64 x0, .int .i64 x1, .int .i64 nx, .int .i64 ck] 57)).drew).cell? ⟨bx, 1, none⟩ = some (.int .i64 x1) from ⟨HKA.out.cell 0, HKA.out.cell 1, HKA.out.cell 2, HXA.out.cell 0, HXA.out.cell 1⟩)
  have HNE : Hid ((Value.slice A n c).ownBlock ≠ some g) := own_blk_ne HO1.out HK1.out (by decide)
  have HNX : Hid ((Value.slice A n c).ownBlock ≠ some bx) := own_blk_ne HO1.out HX1.out (by decide)
  have hs1' : bx < w1.heap.size := by omega
  clear hs1
  go_region_held3 (fun w' => w'.cell? ⟨g, 0, none⟩ = some (.slice A n c) ∧ w'.cell? ⟨g, 1, none⟩ = some (.int .i64 nx) ∧ w'.cell? ⟨g, 2, none⟩ = some (.int .i64 ck) ∧ w'.cell? ⟨bx, 0, none⟩ = some (.int .i64 x0) ∧ w'.cell? ⟨bx, 1, none⟩ = some (.int .i64 x1))
    (first | with_reducible exact HFA.out | with_reducible exact HFB.out | with_reducible exact HFC1.out)
    (first | (refine step_append_lies _ (by rfl) _ _ 39 (by rfl) base 57 i0 (.agg #[.int .i64 0, .int .i64 0, .int .i64 0, .int .i64 0]) 4 32 Try.underlying39 hi0 hz0 hz1 hz2 rfl (by decide) (.slice A n c) n (ents L) (by rfl) HOA.out ⟨w1.heap.size, 0, none⟩ 1 1 [.int .i64 x0, .int .i64 x1, .int .i64 (nx : Nat), .int .i64 (ck : Nat)] (by rfl) (by rfl) NEWS.out (by simp [Value.oneCell']) (by omega) (by unfold maxLen; omega) (by omega) HZB.out (w1.heap.size + 1) hsz.out ?_; intro gg cap w9 hown9 hgrow hat hlt9; have HOW9 := Lib.hid hown9; have HGR9 := Lib.hid hgrow; have HAT9 := Lib.hid hat; have HK9 := Lib.hid (HKA.out.grown hgrow (fun e => HNE.out e.symm)); have HX9 := Lib.hid (HXA.out.grown hgrow (fun e => HNX.out e.symm)); have HFC1 := Lib.hid (show w9.cell? ⟨g, 0, none⟩ = some (.slice A n c) ∧ w9.cell? ⟨g, 1, none⟩ = some (.int .i64 nx) ∧ w9.cell? ⟨g, 2, none⟩ = some (.int .i64 ck) ∧ w9.cell? ⟨bx, 0, none⟩ = some (.int .i64 x0) ∧ w9.cell? ⟨bx, 1, none⟩ = some (.int .i64 x1) from ⟨HK9.out.cell 0, HK9.out.cell 1, HK9.out.cell 2, HX9.out.cell 0, HX9.out.cell 1⟩); clear hown9 hgrow hat))
  all_goals
    have c0 : w9.cell? ⟨g, 0, none⟩ = some (.slice A n c) := HK9.out.cell 0
    have c1 : w9.cell? ⟨g, 1, none⟩ = some (.int .i64 nx) := HK9.out.cell 1
    have c2 : w9.cell? ⟨g, 2, none⟩ = some (.int .i64 ck) := HK9.out.cell 2
    have z0 := HK9.out.frozen 0
    have z1 := HK9.out.frozen 1
    have z2 := HK9.out.frozen 2
    have u1 : IntKind.i64.wrap ((ck : Int) + 1) = (ck : Int) + 1 := IntWalk.i64_in _ (by omega)
    have u2 : IntKind.i64.wrap ((nx : Int) + 1) = (nx : Int) + 1 := IntWalk.i64_in _ (by omega)
    have u3 : IntKind.i64.wrap ((nx : Int) + 1 - 1) = (nx : Int) := by rw [show (nx : Int) + 1 - 1 = (nx : Int) by omega]; exact IntWalk.i64_in _ (by omega)
    go_wp2_with fail
    go_ret
    refine ⟨by first | rfl | exact ret_int (by omega), ?_, ?_⟩
    · have hgf : ∀ k, k < w1.heap.size + 1 → True := fun _ _ => trivial
      have hoff : Off base F gg := by
        rcases HAT9.out with h1 | h1
        · exact HOW.out gg h1
        · refine ⟨fun hf => ?_, ?_⟩
          · have := HFF.out gg hf
            omega
          · have := HZB.out
            rw [hsz.out] at this
            omega
      have hK := ((HK9.out.set_ 0 (.slice (some ⟨gg, 0, none⟩) (n + 1) cap)).set_ 2 (.int .i64 ((ck : Int) + 1))).set_ 1 (.int .i64 ((nx : Int) + 1))
      have hne : (Value.slice (some ⟨gg, 0, none⟩) (n + 1) cap).ownBlock ≠ some g := own_blk_ne HOW9.out HK9.out (by decide)
      refine ⟨some ⟨gg, 0, none⟩, cap, ?_, ?_, HG.out, fun k hk => ?_⟩
      · have : (L ++ [(⟨x0, x1, nx, ck⟩ : Ent)]).length = n + 1 := by rw [List.length_append, HN.out]; rfl
        rw [this]
        simpa using hK
      · have e1 : (L ++ [(⟨x0, x1, nx, ck⟩ : Ent)]).length = n + 1 := by rw [List.length_append, HN.out]; rfl
        have e2 : ents (L ++ [(⟨x0, x1, nx, ck⟩ : Ent)]) = ents L ++ [.int .i64 x0, .int .i64 x1, .int .i64 (nx : Nat), .int .i64 (ck : Nat)] := by rw [ents_append]; rfl
        rw [e1, e2]
        refine own_touch HOW9.out (F := fun k => k = g) ?_ (fun k hk e => hne (by rw [← e]; exact hk))
        exact (((Touch.refl (fun k => k = g) _).setCell (p := ⟨g, 0, none⟩) (.inl rfl) _).setCell (p := ⟨g, 2, none⟩) (.inl rfl) _).setCell (p := ⟨g, 1, none⟩) (.inl rfl) _
      · have : gg = k := by simpa [Value.ownBlock] using hk
        subst this
        exact hoff
    · refine (((Touch.grown HTA.out HGR9.out (fun k hk => .inl (HOW.out k hk))).setCell (p := ⟨g, 0, none⟩) (.inl HG.out) _).setCell (p := ⟨g, 2, none⟩) (.inl HG.out) _).setCell (p := ⟨g, 1, none⟩) (.inl HG.out) _
end Go.Proofs.Ytnechjedhpcffaa
