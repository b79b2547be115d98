/- The reference's queue: Len, Peek, Update. -/
import Derived.Test.YtnechjedhpcffaaPqRPush
namespace Go.Proofs.Ytnechjedhpcffaa
open Go.RowKit

theorem rlen_any (w : World) (base g : Nat) (F : Nat → Prop) (L : List Ent) (nx ck : Nat) (h : RQ w base F g L nx ck) (hL : L.length ≤ 1000000) :
    Calls Try.prog 20 #[.pointer (some ⟨g, 0, none⟩)] w fun e w' => e = .returned (.int .i64 L.length) ∧ Below w.heap.size w w' := by
  obtain ⟨A, c, K, O, _, _⟩ := h
  have c0 : w.cell? ⟨g, 0, none⟩ = some (.slice A L.length c) := K.cell 0
  clear K O
  go_enter Try.func20, Try.ntmps20
  go_wp2_with fail
  go_ret
  exact ⟨rfl, Below.refl _ _⟩
theorem Blk.set2 {w : World} {g : Nat} {t : TypeId} {a0 a1 : Value} (h : Blk w g t #[a0, a1]) (x0 x1 : Value) : Blk ((w.setCell ⟨g, 0, none⟩ x0).setCell ⟨g, 1, none⟩ x1) g t #[x0, x1] := by
  have := (h.set_ 0 x0).set_ 1 x1
  simpa using this
theorem RQ.reads {w : World} {base g nx ck c : Nat} {F : Nat → Prop} {L : List Ent} {A : Option Addr} (O : w.ownsRow base 57 4 (.slice A L.length c) L.length (ents L)) : Reads w w.heap.size 4 A L.length (ents L) := Reads.of_own O
set_option maxRecDepth 100000 in
set_option maxHeartbeats 2000000 in
theorem rpeek_none (w : World) (base g : Nat) (F : Nat → Prop) (nx ck : Nat) (h : RQ w base F g [] nx ck) :
    Calls Try.prog 17 #[.pointer (some ⟨g, 0, none⟩)] w fun e w' => e = .returned (.tuple #[.agg #[.int .i64 0, .int .i64 0], .bool false]) ∧ Below w.heap.size w w' := by
  obtain ⟨A, c, K, O, _, _⟩ := h
  have HK := Lib.hid K
  clear K O
  go_enter Try.func17, Try.ntmps17
  go_wp2_with fail
  refine (first_any (w.alloc (.cells #[.int .i64 0, .int .i64 0] 27)) g 0 c A [] nx ck (HK.out.alloc _) ⟨rfl, fun h => absurd h (Nat.lt_irrefl _)⟩ (by simp) (by omega)).mono ?_
  rintro e w1 ⟨b, rfl, hf, k, hk⟩
  obtain rfl : b = -1 := by
    rcases fstK_end hf with h | ⟨j, m, _, h, _⟩
    · exact h.2
    · simp at h
  have C : Blk w1 w.heap.size 27 #[.int .i64 0, .int .i64 0] := by rw [hk]; exact (Blk.new' w _ _ rfl).drewN k
  have hb : Below w.heap.size w w1 := by rw [hk]; exact below_drewN ((Below.refl _ _).alloc (Nat.le_refl _) _) _
  have r0 := C.cell 0
  have r1 := C.cell 1
  have z0 := C.frozen 0
  have z1 := C.frozen 1
  simp at r0 r1
  clear hf hk
  go_wp2_with fail
  have C2 := C.set2 (.int .i64 0) (.int .i64 0)
  first
    | exact bodyPost_ret (results_elem rfl rfl (C2.cell 0) (C2.cell 1) rfl) rfl ⟨rfl, (hb.setCell (by show w.heap.size ≤ w.heap.size; omega) _).setCell (by show w.heap.size ≤ w.heap.size; omega) _⟩
    | exact bodyPost_ret (results_elem rfl rfl (C.cell 0) (C.cell 1) rfl) rfl ⟨rfl, hb⟩
set_option maxRecDepth 100000 in
set_option maxHeartbeats 2000000 in
theorem rpeek_some (w : World) (base g : Nat) (F : Nat → Prop) (L : List Ent) (nx ck : Nat) (h : RQ w base F g L nx ck) (hd : (L.map Ent.t).Nodup) (hL : L.length ≤ 1000000) (hne : L ≠ []) :
    Calls Try.prog 17 #[.pointer (some ⟨g, 0, none⟩)] w fun e w' => ∃ m, IsMin m L ∧ e = .returned (.tuple #[.agg #[.int .i64 m.key, .int .i64 m.id], .bool true]) ∧ Below w.heap.size w w' := by
  obtain ⟨A, c, K, O, _, _⟩ := h
  have hgl := K.lt
  obtain ⟨n, hn⟩ : ∃ n, L.length = n := ⟨_, rfl⟩
  rw [hn] at K O hL
  have HN := Lib.hid hn
  have HK := Lib.hid K
  have HO := Lib.hid O
  have HD := Lib.hid hd
  have HNE := Lib.hid hne
  have hbA : Below w.heap.size w (w.alloc (.cells #[.int .i64 0, .int .i64 0] 27)) := (Below.refl _ _).alloc (Nat.le_refl _) _
  clear K O hn hd hne
  go_enter Try.func17, Try.ntmps17
  go_wp2_with fail
  refine (first_any (w.alloc (.cells #[.int .i64 0, .int .i64 0] 27)) g n c A L nx ck (HK.out.alloc _) (Reads.of_own (own_below HO.out hbA)) HD.out (by omega)).mono ?_
  rintro e w1 ⟨b, rfl, hf, k, hk⟩
  rw [← HN.out] at hf
  obtain ⟨j, m, rfl, hj, hmin⟩ : ∃ (j : Nat) (m : Ent), b = (j : Int) ∧ L[j]? = some m ∧ IsMin m L := by
    rcases fstK_end hf with h | h
    · exact absurd h.1 HNE.out
    · exact h
  have C : Blk w1 w.heap.size 27 #[.int .i64 0, .int .i64 0] := by rw [hk]; exact (Blk.new' w _ _ rfl).drewN k
  have hb : Below w.heap.size w w1 := by rw [hk]; exact below_drewN hbA _
  have r0 := C.cell 0
  have r1 := C.cell 1
  have z0 := C.frozen 0
  have z1 := C.frozen 1
  simp at r0 r1
  have c0 : w1.cell? ⟨g, 0, none⟩ = some (.slice A n c) := (HK.out.below hb hgl).cell 0
  have hjn : j < n := by have := (List.getElem?_eq_some_iff.1 hj).1; have := HN.out; omega
  obtain ⟨bb, off, m', hA, _, hm', p0, p1, _, _⟩ := (Reads.of_own (own_below HO.out hb)).ent_at hjn
  rw [hj] at hm'
  injection hm' with hm'
  subst hm' hA
  have HM := Lib.hid hmin
  have hj0 : decide ((j : Int) < 0) = false := by simp
  clear hf hk hj hmin hbA
  obtain ⟨m0, m1, mh, mt⟩ := m
  simp only at p0 p1
  go_wp2_with fail
  have C2 := C.set2 (.int .i64 m0) (.int .i64 m1)
  exact bodyPost_ret (results_elem rfl rfl (C2.cell 0) (C2.cell 1) rfl) rfl ⟨⟨m0, m1, mh, mt⟩, HM.out, rfl, (hb.setCell (by show w.heap.size ≤ w.heap.size; omega) _).setCell (by show w.heap.size ≤ w.heap.size; omega) _⟩

/-- The index of the entry with a handle. -/
theorem upd_none {L : List Ent} {k : Nat} {hd : Int} (h : ∀ i e, i < k → L[i]? = some e → (e.h : Int) ≠ hd) (hk : k = L.length) : ∀ e ∈ L, (e.h : Int) ≠ hd := fun e he => by
  obtain ⟨i, hi⟩ := List.getElem?_of_mem he
  exact h i e (by rw [hk]; exact (List.getElem?_eq_some_iff.1 hi).1) hi
/-- An entry replaced in an owned row. -/
theorem rown_put {w : World} {base g c : Nat} {L : List Ent} (h : w.ownsRow base 57 4 (.slice (some ⟨g, 0, none⟩) L.length c) L.length (ents L)) {i : Nat} (hi : i < L.length) (e : Ent) :
    ((((w.setCell ⟨g, i * 4, none⟩ (.int .i64 e.key)).setCell ⟨g, i * 4 + 1, none⟩ (.int .i64 e.id)).setCell ⟨g, i * 4 + 2, none⟩ (.int .i64 (e.h : Nat))).setCell ⟨g, i * 4 + 3, none⟩ (.int .i64 (e.t : Nat))).ownsRow base 57 4 (.slice (some ⟨g, 0, none⟩) (L.set i e).length c) (L.set i e).length (ents (L.set i e)) := by
  have hm : i * 4 + 4 ≤ L.length * 4 := by have := Nat.mul_le_mul_right 4 (show i + 1 ≤ L.length from hi); omega
  rw [List.length_set, ← ents_put L i e hi]
  exact own_setCell (own_setCell (own_setCell (own_setCell h _ _ (by omega)) _ _ (by omega)) _ _ (by omega)) _ _ (by omega)
theorem rown_frozen {w : World} {base g c n : Nat} {xs : List Value} (h : w.ownsRow base 57 4 (.slice (some ⟨g, 0, none⟩) n c) n xs) (o : Nat) : w.frozen? ⟨g, o, none⟩ = false := by
  rcases h.2 with ⟨hv, _⟩ | ⟨g', cap, cur, hv, _, hg, _⟩
  · injection hv with h1; cases h1
  · injection hv with h1
    injection h1 with h1
    injection h1 with h1
    subst h1
    exact Blk.frozen (t := 57) (cs := cur) hg o
theorem rown_form {w : World} {base n c : Nat} {A : Option Addr} {L : List Ent} (h : w.ownsRow base 57 4 (.slice A n c) n (ents L)) (hn : 0 < n) : ∃ g cur, A = some ⟨g, 0, none⟩ ∧ Blk w g 57 cur ∧ n ≤ c := by
  rcases h.2 with ⟨hv, h0⟩ | ⟨g, cap, cur, hv, _, hg, h1, _⟩
  · omega
  · injection hv with h2 h3 h4
    subst h2 h4
    exact ⟨g, cur, rfl, hg, h1⟩
set_option maxRecDepth 100000 in
set_option maxHeartbeats 4000000 in
theorem rupd_any (w : World) (base g : Nat) (F : Nat → Prop) (L : List Ent) (nx ck : Nat) (hd x0 x1 : Int) (h : RQ w base F g L nx ck) (hL : L.length ≤ 1000000) (hck : ck ≤ 100000000) :
    Calls Try.prog 19 #[.pointer (some ⟨g, 0, none⟩), .int .i64 hd, .agg #[.int .i64 x0, .int .i64 x1]] w fun e w' =>
      (e = .returned (.bool false) ∧ (∀ e ∈ L, (e.h : Int) ≠ hd) ∧ Below w.heap.size w w') ∨
      (e = .returned (.bool true) ∧ ∃ (i : Nat) (y : Ent), L[i]? = some y ∧ (y.h : Int) = hd ∧ RQ w' base F g (L.set i ⟨x0, x1, y.h, ck⟩) nx (ck + 1) ∧ Touch (Off base F) w w') := by
  obtain ⟨A, c, K, O, hg, hown⟩ := h
  obtain ⟨n, hn⟩ : ∃ n, L.length = n := ⟨_, rfl⟩
  have hgl := K.lt
  rw [hn] at K O hown hL
  have HN := Lib.hid hn
  have HG := Lib.hid hg
  have HOW := Lib.hid hown
  have HK := Lib.hid K
  have HO := Lib.hid O
  clear K O hg hown hn
  go_enter Try.func19, Try.ntmps19
  go_wp2_with fail
  obtain ⟨w1, hw1⟩ : ∃ w1, w.alloc (.cells #[.int .i64 x0, .int .i64 x1] 27) = w1 := ⟨_, rfl⟩
  obtain ⟨bx, hbx⟩ : ∃ bx, w.heap.size = bx := ⟨_, rfl⟩
  have HX1 : Hid (Blk w1 bx 27 #[.int .i64 x0, .int .i64 x1]) := by rw [← hw1]; exact Blk.new' w _ _ hbx
  have hb1 : Below w.heap.size w w1 := by rw [← hw1]; exact (Below.refl _ _).alloc (Nat.le_refl _) _
  have HB1 := Lib.hid hb1
  have HK1 := Lib.hid (HK.out.below hb1 HK.out.lt)
  have HO1 := Lib.hid (own_below HO.out hb1)
  have hgb : g < bx := by omega
  rw [hw1, hbx]
  clear hw1 hb1 HK HO hgl
  go_loop [7] (fun x => ∃ k : Nat, k ≤ n ∧ x = .int .i64 k ∧ Hid (∀ i e, i < k → L[i]? = some e → (e.h : Int) ≠ hd)) (fun x => n - (intOf x).toNat)
  case atStart => exact ⟨0, Nat.zero_le _, rfl, fun i e hi => absurd hi (Nat.not_lt_zero _)⟩
  case round =>
    obtain ⟨k, hk, rfl, HI⟩ := hrel
    have c0 : w1.cell? ⟨g, 0, none⟩ = some (.slice A n c) := HK1.out.cell 0
    by_cases hlt : k < n
    case neg =>
      have hltD : decide (k < n) = false := by simp [hlt]
      obtain rfl : n = k := by omega
      have hno := upd_none HI.out HN.out.symm
      have HNO := Lib.hid hno
      clear hno
      go_wp2_with fail
      go_ret
      refine .inl ⟨rfl, HNO.out, ?_⟩
      rw [← hbx]
      exact HB1.out
    case pos =>
      have hltD : decide (k < n) = true := by simp [hlt]
      obtain ⟨gr, cur, hA, hgr, hnc⟩ := rown_form HO1.out (by omega)
      subst hA
      obtain ⟨b, off, y, hA, _, hy, p0, p1, p2, p3⟩ := (Reads.of_own HO1.out).ent_at hlt
      injection hA with hA
      injection hA with e1 e2 _
      subst e1 e2
      simp only [Nat.zero_add] at p0 p1 p2 p3
      have HY := Lib.hid hy
      clear hgr hy
      by_cases hh : (y.h : Int) = hd
      case neg =>
        have hhD : ((y.h : Int) == hd) = false := by rw [beq_eq_false_iff_ne]; exact hh
        have HH := Lib.hid hh
        clear hh
        go_wp2_with fail
        go_round
        case rel => exact ⟨k + 1, by omega, by go_num, fun i e hi he => by
          by_cases hik : i = k
          · subst hik; rw [HY.out] at he; injection he with he; subst he; exact HH.out
          · exact HI.out i e (by omega) he⟩
        case measure => simp [intOf]; omega
      case pos =>
        subst hh
        have hhD : ((y.h : Int) == (y.h : Int)) = true := beq_self_eq_true _
        have c2 : w1.cell? ⟨g, 2, none⟩ = some (.int .i64 ck) := HK1.out.cell 2
        have z2 := HK1.out.frozen 2
        have x0c : w1.cell? ⟨bx, 0, none⟩ = some (.int .i64 x0) := HX1.out.cell 0
        have x1c : w1.cell? ⟨bx, 1, none⟩ = some (.int .i64 x1) := HX1.out.cell 1
        have y0 := rown_frozen HO1.out (k * 4)
        have y1 := rown_frozen HO1.out (k * 4 + 1)
        have y2 := rown_frozen HO1.out (k * 4 + 2)
        have y3 := rown_frozen HO1.out (k * 4 + 3)
        have hne : (Value.slice (some ⟨gr, 0, none⟩) n c).ownBlock ≠ some g := own_blk_ne HO1.out HK1.out (by decide)
        have hnx : (Value.slice (some ⟨gr, 0, none⟩) n c).ownBlock ≠ some bx := own_blk_ne HO1.out HX1.out (by decide)
        have hne1 : ¬ gr = g := fun e => hne (by subst e; rfl)
        have hne2 : ¬ gr = bx := fun e => hnx (by subst e; rfl)
        have u1 : IntKind.i64.wrap ((ck : Int) + 1) = (ck : Int) + 1 := IntWalk.i64_in _ (by omega)
        have hob : Off base F gr := HOW.out gr rfl
        have HOB := Lib.hid hob
        clear hob hne hnx
        go_upto_region 5 with fail
        go_region
        all_goals
          go_wp2_with fail
          go_ret
          refine .inr ⟨rfl, k, y, HY.out, rfl, ?_, ?_⟩
          · have hkL : k < L.length := by have := HN.out; omega
            have hO := HO1.out
            rw [← HN.out] at hO
            have h1 := rown_put hO hkL ⟨x0, x1, y.h, ck⟩
            refine ⟨some ⟨gr, 0, none⟩, c, ?_, ?_, HG.out, fun q hq => ?_⟩
            · have h2 := (((((HK1.out.far (p := ⟨gr, k * 4, none⟩) (fun e => hne1 e.symm) (.int .i64 x0)).far (p := ⟨gr, k * 4 + 1, none⟩) (fun e => hne1 e.symm) (.int .i64 x1)).far (p := ⟨gr, k * 4 + 2, none⟩) (fun e => hne1 e.symm) (.int .i64 (y.h : Nat))).far (p := ⟨gr, k * 4 + 3, none⟩) (fun e => hne1 e.symm) (.int .i64 (ck : Nat))).set_ 2 (.int .i64 ((ck : Int) + 1)))
              rw [List.length_set, HN.out]
              simp at h2
              exact h2
            · refine own_touch h1 (F := fun q => q = g) ?_ (fun q hq e => hne1 (by have : gr = q := by simpa [Value.ownBlock] using hq
                                                                                   omega))
              exact ((Touch.refl (fun q => q = g) _).setCell (p := ⟨g, 2, none⟩) (.inl rfl) _).drewN 1
            · have : gr = q := by simpa [Value.ownBlock] using hq
              subst this
              exact HOB.out
          · exact ((((((Touch.of_below HB1.out).setCell (p := ⟨gr, k * 4, none⟩) (.inl HOB.out) _).setCell (p := ⟨gr, k * 4 + 1, none⟩) (.inl HOB.out) _).setCell (p := ⟨gr, k * 4 + 2, none⟩) (.inl HOB.out) _).setCell (p := ⟨gr, k * 4 + 3, none⟩) (.inl HOB.out) _).setCell (p := ⟨g, 2, none⟩) (.inl HG.out) _).drewN 1
end Go.Proofs.Ytnechjedhpcffaa
