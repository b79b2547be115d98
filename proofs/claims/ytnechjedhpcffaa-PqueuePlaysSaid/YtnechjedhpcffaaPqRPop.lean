/- The reference's queue: Pop. -/
import Derived.Test.YtnechjedhpcffaaPqRPeek
import Derived.Deep.RegionLaw
namespace Go.Proofs.Ytnechjedhpcffaa
open Go.RowKit

set_option maxRecDepth 100000 in
set_option maxHeartbeats 2000000 in
theorem rpop_none (w : World) (base g : Nat) (F : Nat → Prop) (nx ck : Nat) (h : RQ w base F g [] nx ck) :
    Calls Try.prog 18 #[.pointer (some ⟨g, 0, none⟩)] w fun e w' => e = .returned (.tuple #[.agg #[.int .i64 0, .int .i64 0], .bool false]) ∧ Below w.heap.size w w' := by
  obtain ⟨A, c, K, O, _, _⟩ := h
  have HK := Lib.hid K
  clear K O
  go_enter Try.func18, Try.ntmps18
  go_wp2_with fail
  refine (first_any (w.alloc (.cells #[.int .i64 0, .int .i64 0] 27)) g 0 c A [] nx ck (HK.out.alloc _) ⟨rfl, fun h => absurd h (Nat.lt_irrefl _)⟩ (by simp) (by omega)).mono ?_
  rintro e w1 ⟨b, rfl, hf, k, hk⟩
  obtain rfl : b = -1 := by
    rcases fstK_end hf with h | ⟨j, m, _, h, _⟩
    · exact h.2
    · simp at h
  have C : Blk w1 w.heap.size 27 #[.int .i64 0, .int .i64 0] := by rw [hk]; exact (Blk.new' w _ _ rfl).drewN k
  have hb : Below w.heap.size w w1 := by rw [hk]; exact below_drewN ((Below.refl _ _).alloc (Nat.le_refl _) _) _
  have r0 := C.cell 0
  have r1 := C.cell 1
  have z0 := C.frozen 0
  have z1 := C.frozen 1
  simp at r0 r1
  clear hf hk
  go_wp2_with fail
  have C2 := C.set2 (.int .i64 0) (.int .i64 0)
  first
    | exact bodyPost_ret (results_elem rfl rfl (C2.cell 0) (C2.cell 1) rfl) rfl ⟨rfl, (hb.setCell (by show w.heap.size ≤ w.heap.size; omega) _).setCell (by show w.heap.size ≤ w.heap.size; omega) _⟩
    | exact bodyPost_ret (results_elem rfl rfl (C.cell 0) (C.cell 1) rfl) rfl ⟨rfl, hb⟩
theorem own_grown {w w' : World} {base : Nat} {e : TypeId} {size n : Nat} {v : Value} {xs : List Value} {row : Option Nat} (h : w.ownsRow base e size v n xs) (hg : w.grownBy w' row) (hne : ∀ k, v.ownBlock = some k → row ≠ some k) : w'.ownsRow base e size v n xs :=
  own_touch h (F := fun k => row = some k) (Touch.grown (Touch.refl _ _) hg (fun k hk => .inl hk)) (fun k hk e => hne k hk e)
/-- The parts of a row before and behind an entry. -/
theorem rown_take {w : World} {g n : Nat} {L : List Ent} (h : Reads w w.heap.size 4 (some ⟨g, 0, none⟩) n (ents L)) {j : Nat} (hj : j < n) : Reads w w.heap.size 4 (some ⟨g, 0, none⟩) j (ents (L.take j)) := by
  have hl := h.len_ents
  refine ⟨by rw [ents_length, List.length_take]; omega, fun h0 => ?_⟩
  obtain ⟨b, off, e, hb, hc⟩ := h.2 (by omega)
  refine ⟨b, off, e, hb, fun i u hu => hc i u ?_⟩
  have e1 : ents L = ents (L.take j) ++ ents (L.drop j) := by rw [← ents_append, List.take_append_drop]
  rw [e1, List.getElem?_append_left (List.getElem?_eq_some_iff.1 hu).1]
  exact hu
theorem rown_drop {w : World} {g n : Nat} {L : List Ent} (h : Reads w w.heap.size 4 (some ⟨g, 0, none⟩) n (ents L)) {j : Nat} (hj : j ≤ n) : Reads w w.heap.size 4 (some ⟨g, j * 4, none⟩) (n - j) (ents (L.drop j)) := by
  have hl := h.len_ents
  refine ⟨by rw [ents_length, List.length_drop]; omega, fun h0 => ?_⟩
  obtain ⟨b, off, e, hb, hc⟩ := h.2 (by omega)
  injection e with e
  injection e with e1 e2 _
  subst e1 e2
  refine ⟨g, j * 4, rfl, hb, fun i u hu => ?_⟩
  have e1 : ents L = ents (L.take j) ++ ents (L.drop j) := by rw [← ents_append, List.take_append_drop]
  have e2 : (ents (L.take j)).length = j * 4 := by rw [ents_length, List.length_take]; omega
  have := hc (j * 4 + i) u (by rw [e1, List.getElem?_append_right (by omega), e2]; simpa using hu)
  simpa [Nat.add_assoc] using this
/-- What the appends keep. -/
structure Mid (w2 w : World) (base g gr bx r n c nx ck : Nat) (L : List Ent) (m0 m1 : Int) (v : Value) : Prop where
  kg : Blk w g 41 #[.slice (some ⟨gr, 0, none⟩) n c, .int .i64 nx, .int .i64 ck]
  kx : Blk w bx 27 #[.int .i64 m0, .int .i64 m1]
  kr : Blk w r 27 #[.int .i64 0, .int .i64 0]
  own0 : w.ownsRow base 57 4 (.slice (some ⟨gr, 0, none⟩) n c) n (ents L)
  own : ∀ k, v.ownBlock = some k → w2.heap.size ≤ k
  below : Below w2.heap.size w2 w
  lt : g < w2.heap.size ∧ gr < w2.heap.size ∧ bx < w2.heap.size ∧ r < w2.heap.size
theorem Mid.size {w2 w : World} {base g gr bx r n c nx ck : Nat} {L : List Ent} {m0 m1 : Int} {v : Value} (h : Mid w2 w base g gr bx r n c nx ck L m0 m1 v) : w2.heap.size ≤ w.heap.size := h.below.size
theorem Mid.touch {w2 w : World} {base g gr bx r n c nx ck : Nat} {L : List Ent} {m0 m1 : Int} {v : Value} (h : Mid w2 w base g gr bx r n c nx ck L m0 m1 v) (X : Nat → Prop) : Touch X w2 w := Touch.of_below h.below
theorem Mid.next {w2 w w' : World} {base g gr bx r n c nx ck : Nat} {L : List Ent} {m0 m1 : Int} {v v' : Value} (h : Mid w2 w base g gr bx r n c nx ck L m0 m1 v) (hg : w.grownBy w' v.ownBlock) (hat : v'.ownBlock = v.ownBlock ∨ v'.ownBlock = some w.heap.size) : Mid w2 w' base g gr bx r n c nx ck L m0 m1 v' := by
  have hlt := h.lt
  have hne : ∀ k, k < w2.heap.size → some k ≠ v.ownBlock := fun k hk e => by have := h.own k e.symm; omega
  refine ⟨h.kg.grown hg (hne _ hlt.1), h.kx.grown hg (hne _ hlt.2.2.1), h.kr.grown hg (hne _ hlt.2.2.2), own_grown h.own0 hg (fun k hk e => ?_), fun k hk => ?_, h.below.grown hg h.size (fun k hk => h.own k hk), hlt⟩
  · have : gr = k := by simpa [Value.ownBlock] using hk
    subst this
    exact hne _ hlt.2.1 e.symm
  · rcases hat with e | e
    · exact h.own k (by rw [← e]; exact hk)
    · rw [hk] at e
      injection e with e
      have := h.size
      omega
theorem pop_mid {w2 w9 : World} {base g gr bx r n c nx ck : Nat} {L : List Ent} {m0 m1 : Int} {v9 : Value} {W : World}
    (O : w2.ownsRow base 57 4 (.slice (some ⟨gr, 0, none⟩) n c) n (ents L)) (K : Blk w2 g 41 #[.slice (some ⟨gr, 0, none⟩) n c, .int .i64 nx, .int .i64 ck]) (X : Blk w2 bx 27 #[.int .i64 m0, .int .i64 m1])
    (R : Blk w2 r 27 #[.int .i64 0, .int .i64 0]) (hW : Below w2.heap.size w2 W) (hg : W.grownBy w9 (Value.slice (some ⟨w2.heap.size, 0, none⟩) 0 0).ownBlock) (hat : v9.ownBlock = (Value.slice (some ⟨w2.heap.size, 0, none⟩) 0 0).ownBlock ∨ v9.ownBlock = some W.heap.size) :
    Mid w2 w9 base g gr bx r n c nx ck L m0 m1 v9 := by
  have h0 : Mid w2 W base g gr bx r n c nx ck L m0 m1 (.slice (some ⟨w2.heap.size, 0, none⟩) 0 0) :=
    ⟨K.below hW K.lt, X.below hW X.lt, R.below hW R.lt, own_below O hW, fun k hk => (by have h2 : w2.heap.size = k := (by simpa [Value.ownBlock] using hk); omega), hW, K.lt, own_lt O (by rfl), X.lt, R.lt⟩
  exact h0.next hg hat
set_option maxRecDepth 100000 in
set_option maxHeartbeats 4000000 in
theorem rpop_some (w : World) (base g : Nat) (F : Nat → Prop) (L : List Ent) (nx ck : Nat) (h : RQ w base F g L nx ck) (hb : base ≤ w.heap.size) (hF : ∀ k, F k → k < w.heap.size) (hd : (L.map Ent.t).Nodup) (hL : L.length ≤ 1000000) (hne : L ≠ []) :
    Calls Try.prog 18 #[.pointer (some ⟨g, 0, none⟩)] w fun e w' => ∃ (j : Nat) (m : Ent), IsMin m L ∧ L[j]? = some m ∧ e = .returned (.tuple #[.agg #[.int .i64 m.key, .int .i64 m.id], .bool true]) ∧ RQ w' base F g (L.take j ++ L.drop (j + 1)) nx ck ∧ Touch (fun k => k = g) w w' := by
  obtain ⟨i0, hi0, hz0, hz1, hz2⟩ := info_parts Try.infoREnt
  obtain ⟨A, c, K, O, hg, hown⟩ := h
  have hgl := K.lt
  obtain ⟨n, hn⟩ : ∃ n, L.length = n := ⟨_, rfl⟩
  rw [hn] at K O hown hL
  have HN := Lib.hid hn
  have HG := Lib.hid hg
  have HOW := Lib.hid hown
  have HK := Lib.hid K
  have HO := Lib.hid O
  have HD := Lib.hid hd
  have HNE := Lib.hid hne
  have HFF := Lib.hid hF
  have hbA : Below w.heap.size w (w.alloc (.cells #[.int .i64 0, .int .i64 0] 27)) := (Below.refl _ _).alloc (Nat.le_refl _) _
  clear K O hn hd hne hg hown hF
  go_enter Try.func18, Try.ntmps18
  go_wp2_with fail
  refine (first_any (w.alloc (.cells #[.int .i64 0, .int .i64 0] 27)) g n c A L nx ck (HK.out.alloc _) (Reads.of_own (own_below HO.out hbA)) HD.out (by omega)).mono ?_
  rintro e w1 ⟨b, rfl, hf, k, hk⟩
  rw [← HN.out] at hf
  obtain ⟨j, m, rfl, hj, hmin⟩ : ∃ (j : Nat) (m : Ent), b = (j : Int) ∧ L[j]? = some m ∧ IsMin m L := by
    rcases fstK_end hf with h | h
    · exact absurd h.1 HNE.out
    · exact h
  have C : Blk w1 w.heap.size 27 #[.int .i64 0, .int .i64 0] := by rw [hk]; exact (Blk.new' w _ _ rfl).drewN k
  have hb1 : Below w.heap.size w w1 := by rw [hk]; exact below_drewN hbA _
  have c0 : w1.cell? ⟨g, 0, none⟩ = some (.slice A n c) := (HK.out.below hb1 hgl).cell 0
  have hjn : j < n := by have := (List.getElem?_eq_some_iff.1 hj).1; have := HN.out; omega
  obtain ⟨gr, cur, hA, hgr, hnc⟩ := rown_form HO.out (by omega)
  subst hA
  obtain ⟨bb, off, m', hA, _, hm', p0, p1, _, _⟩ := (Reads.of_own (own_below HO.out hb1)).ent_at hjn
  rw [hj] at hm'
  injection hm' with hm'
  subst hm'
  injection hA with hA
  injection hA with e1 e2 _
  subst e1 e2
  simp only [Nat.zero_add] at p0 p1
  have HM := Lib.hid (And.intro hmin hj)
  have hj0 : decide ((j : Int) < 0) = false := by simp
  have hgrl : gr < w.heap.size := own_lt HO.out (by rfl)
  have hs1 := hb1.size
  clear hf hk hj hmin hbA hgr
  obtain ⟨m0, m1, mh, mt⟩ := m
  simp only at p0 p1
  go_upto_region 5 with fail
  obtain ⟨w2, hw2⟩ : ∃ w2, w1.alloc (.cells #[.int .i64 m0, .int .i64 m1] 27) = w2 := ⟨_, rfl⟩
  obtain ⟨bx, hbx⟩ : ∃ bx, w1.heap.size = bx := ⟨_, rfl⟩
  have hb12 : Below w1.heap.size w1 w2 := by rw [← hw2]; exact (Below.refl _ _).alloc (Nat.le_refl _) _
  have hb2 : Below w.heap.size w w2 := hb1.trans (hb12.mono hs1)
  have HX2 : Hid (Blk w2 bx 27 #[.int .i64 m0, .int .i64 m1]) := by rw [← hw2]; exact Blk.new' _ _ _ hbx
  have HC2 := Lib.hid (C.below hb12 C.lt)
  have HK2 := Lib.hid (HK.out.below hb2 hgl)
  have HO2 := Lib.hid (own_below HO.out hb2)
  have HB2 := Lib.hid hb2
  have hs2 : bx < w2.heap.size := HX2.out.lt
  rw [hw2, hbx]
  obtain ⟨r, hr⟩ : ∃ r, w.heap.size = r := ⟨_, rfl⟩
  rw [hr] at HC2
  try rw [hr]
  have HS := Lib.hid (show g < r ∧ gr < r ∧ r < bx from ⟨by omega, by omega, by have := C.lt; omega⟩)
  have HR := Lib.hid hr
  clear hw2 hbx hb12 hb1 c0 p0 p1 C hr hs1 hgrl hb2
  have hEO : ∀ u ∈ ents (L.take j), u.oneCell' = true := fun u hu => ents_one hu
  have hEO2 : ∀ u ∈ ents (L.drop (j + 1)), u.oneCell' = true := fun u hu => ents_one hu
  have HEO := Lib.hid (And.intro hEO hEO2)
  have HOA : Hid ((w2.alloc (.cells #[] 57)).drew.ownsRow base 57 4 (.slice (some ⟨w2.heap.size, 0, none⟩) 0 0) 0 []) :=
    ⟨rfl, .inr ⟨w2.heap.size, 0, #[], rfl, Nat.le_trans hb HB2.out.size, Blk.new w2 _ _, Nat.le_refl _, by unfold maxLen; omega, rfl, rfl⟩⟩
  have HBA : Below w2.heap.size w2 (w2.alloc (.cells #[] 57)).drew := ((Below.refl _ w2).alloc (Nat.le_refl _) _).drew
  have HBAH := Lib.hid HBA
  have HRA := Lib.hid (rown_take (Reads.of_own (own_below HO2.out HBA)) hjn)
  have HBZ : Hid (base ≤ (w2.alloc (.cells #[] 57)).drew.heap.size) := Nat.le_trans (Nat.le_trans hb HB2.out.size) HBA.size
  have HKA := Lib.hid (HK2.out.below HBA HK2.out.lt)
  have HFA : Hid (w2.drew.cell? ⟨g, 0, none⟩ = some (.slice (some ⟨gr, 0, none⟩) n c)) := HK2.out.cell 0
  have HFB : Hid ((w2.alloc (.cells #[] 57)).drew.cell? ⟨g, 0, none⟩ = some (.slice (some ⟨gr, 0, none⟩) n c)) := HKA.out.cell 0
  have HGL : Hid (g < w2.heap.size ∧ gr < w2.heap.size ∧ bx < w2.heap.size) := ⟨HK2.out.lt, by have := HS.out; omega, hs2⟩
  have u1 : IntKind.i64.wrap ((j : Int) + 1) = (j : Int) + 1 := IntWalk.i64_in _ (by omega)
  have u2 : ((j : Int) + 1).toNat = j + 1 := by omega
  have u3 : (0 : Int) ≤ (j : Int) + 1 := by omega
  have hjc : j ≤ c := by omega
  have hjc2 : j + 1 ≤ n := by omega
  have hcm : c ≤ maxLen := by
    obtain ⟨_, _, e, _, h⟩ := own_form HO2.out
    injection e with e1 e2 e3
    omega
  clear hEO hEO2 HBA
  have hnj : j ≤ n := by omega
  have u4 : (j : Int) + 1 ≤ (n : Int) := by omega
  have u5 : (j : Int) + 1 ≤ (c : Int) := by omega
  have u6 : (n : Int) ≤ (c : Int) := by omega
  have u7 : ((n : Int) - ((j : Int) + 1)).toNat = n - (j + 1) := by omega
  by_cases hcap : j + 1 = c
  case pos =>
    have HDR : Hid (∀ w9 : World, Reads w9 w9.heap.size 4 (some ⟨gr, 0, none⟩) (n - (j + 1)) (ents (L.drop (j + 1)))) := fun w9 => ⟨by rw [ents_length, List.length_drop, HN.out], fun h => by omega⟩
    have hcT : (c = j + 1) = True := by simp only [eq_iff_iff, iff_true]; omega
    clear hcap
    have hfa : w2.cell? ⟨g, 0, none⟩ = some (.slice (some ⟨gr, 0, none⟩) n c) := HK2.out.cell 0
    have hfb : (w2.alloc (.cells #[] 57)).cell? ⟨g, 0, none⟩ = some (.slice (some ⟨gr, 0, none⟩) n c) := HKA.out.cell 0
    go_region_law
      (first
        | (refine step_append_any _ (by rfl) _ _ 39 (by rfl) base 57 i0 (.agg #[.int .i64 0, .int .i64 0, .int .i64 0, .int .i64 0]) 4 32 Try.underlying39 hi0 hz0 hz1 hz2 rfl (by decide) (.slice (some ⟨w2.heap.size, 0, none⟩) 0 0) 0 [] (by rfl) HOA.out _ (some ⟨gr, 0, none⟩) j c (ents (L.take j)) (by rfl) HRA.out HEO.out.1 (by unfold maxLen; omega) (by omega) HBZ.out ?_; intro v9 w9 hown9 hgrow hat; obtain ⟨A9, c9, rfl, hc9, _⟩ := own_form hown9; simp only [Nat.zero_add, List.nil_append] at hown9 hat; simp only [Nat.zero_add]; have HOW9 := Lib.hid (show w9.ownsRow base 57 4 (.slice A9 j c9) j (ents (L.take j)) from hown9); have HM9 := Lib.hid (pop_mid HO2.out HK2.out HX2.out HC2.out HBAH.out hgrow hat); have hfc : w9.cell? ⟨g, 0, none⟩ = some (.slice (some ⟨gr, 0, none⟩) n c) := HM9.out.kg.cell 0; clear hown9 hgrow hat hc9)
        | (refine step_append_any _ (by rfl) _ _ 39 (by rfl) base 57 i0 (.agg #[.int .i64 0, .int .i64 0, .int .i64 0, .int .i64 0]) 4 32 Try.underlying39 hi0 hz0 hz1 hz2 rfl (by decide) (.slice A9 j c9) j (ents (L.take j)) (by rfl) HOW9.out _ (some ⟨gr, 0, none⟩) (n - (j + 1)) (c - (j + 1)) (ents (L.drop (j + 1))) (by rfl) (HDR.out w9) HEO.out.2 (by unfold maxLen; omega) (by omega) (Nat.le_trans (Nat.le_trans hb HB2.out.size) HM9.out.size) ?_; intro v10 w10 hown10 hgrow10 hat10; obtain ⟨A10, c10, rfl, hc10, _⟩ := own_form hown10; have HOW10 := Lib.hid hown10; have HM10 := Lib.hid (HM9.out.next hgrow10 hat10);  have c0 : w10.cell? ⟨g, 0, none⟩ = some (.slice (some ⟨gr, 0, none⟩) n c) := HM10.out.kg.cell 0; have z0 := HM10.out.kg.frozen 0; clear hown10 hgrow10 hat10 hc10))
    all_goals
      have x0 : w10.cell? ⟨bx, 0, none⟩ = some (.int .i64 m0) := HM10.out.kx.cell 0
      have x1 : w10.cell? ⟨bx, 1, none⟩ = some (.int .i64 m1) := HM10.out.kx.cell 1
      have r0 : w10.cell? ⟨r, 0, none⟩ = some (.int .i64 0) := HM10.out.kr.cell 0
      have r1 : w10.cell? ⟨r, 1, none⟩ = some (.int .i64 0) := HM10.out.kr.cell 1
      have y0 := HM10.out.kr.frozen 0
      have y1 := HM10.out.kr.frozen 1
      have ng : ¬ g = r := by have := HS.out; omega
      have ngx : ¬ g = bx := by have := HS.out; omega
      have nrx : ¬ r = bx := by have := HS.out; omega
      go_wp2_with fail
      have C2 := (HM10.out.kr.far (p := ⟨g, 0, none⟩) (fun e => ng e.symm) (.slice A10 (j + (n - (j + 1))) c10)).set2 (.int .i64 m0) (.int .i64 m1)
      refine bodyPost_ret (results_elem rfl rfl (C2.cell 0) (C2.cell 1) rfl) rfl ⟨j, ⟨m0, m1, mh, mt⟩, HM.out.1, HM.out.2, rfl, ?_, ?_⟩
      · have hlen : (L.take j ++ L.drop (j + 1)).length = j + (n - (j + 1)) := by rw [List.length_append, List.length_take, List.length_drop, HN.out]; omega
        refine ⟨A10, c10, ?_, ?_, HG.out, fun k hk => ?_⟩
        · have hK := ((HM10.out.kg.set_ 0 (.slice A10 (j + (n - (j + 1))) c10)).far (p := ⟨r, 0, none⟩) ng (.int .i64 m0)).far (p := ⟨r, 1, none⟩) ng (.int .i64 m1)
          rw [hlen]
          simpa using hK
        · rw [hlen, ents_append]
          have hg1 : (Value.slice A10 (j + (n - (j + 1))) c10).ownBlock ≠ some g := own_blk_ne HOW10.out HM10.out.kg (by decide)
          have hg2 : (Value.slice A10 (j + (n - (j + 1))) c10).ownBlock ≠ some r := own_blk_ne HOW10.out HM10.out.kr (by decide)
          refine own_touch HOW10.out (F := fun k => k = g ∨ k = r) ?_ (fun k hk e => ?_)
          · exact (((Touch.refl (fun k => k = g ∨ k = r) _).setCell (p := ⟨g, 0, none⟩) (.inl (.inl rfl)) _).setCell (p := ⟨r, 0, none⟩) (.inl (.inr rfl)) _).setCell (p := ⟨r, 1, none⟩) (.inl (.inr rfl)) _
          · rcases e with e | e
            · exact hg1 (by rw [hk, e])
            · exact hg2 (by rw [hk, e])
        · rw [hlen] at hk
          have h1 := HM10.out.own _ hk
          refine ⟨fun hf => ?_, ?_⟩
          · have := HFF.out k hf
            have := HB2.out.size
            omega
          · have := HB2.out.size
            omega
      · have hr1 : r = w.heap.size := HR.out.symm
        exact (((Touch.of_below HB2.out).trans (HM10.out.touch (fun k => k = g)) (fun k hk => .inl hk)).setCell (p := ⟨g, 0, none⟩) (.inl rfl) _ |>.setCell (p := ⟨r, 0, none⟩) (.inr (by show w.heap.size ≤ r; omega)) _).setCell (p := ⟨r, 1, none⟩) (.inr (by show w.heap.size ≤ r; omega)) _
  case neg =>
    have hcap2 : j + 1 < c := by omega
    have hcap3 : ¬ c = j + 1 := by omega
    have hfa : w2.cell? ⟨g, 0, none⟩ = some (.slice (some ⟨gr, 0, none⟩) n c) := HK2.out.cell 0
    have hfb : (w2.alloc (.cells #[] 57)).cell? ⟨g, 0, none⟩ = some (.slice (some ⟨gr, 0, none⟩) n c) := HKA.out.cell 0
    go_region_law
      (first
        | (refine step_append_any _ (by rfl) _ _ 39 (by rfl) base 57 i0 (.agg #[.int .i64 0, .int .i64 0, .int .i64 0, .int .i64 0]) 4 32 Try.underlying39 hi0 hz0 hz1 hz2 rfl (by decide) (.slice (some ⟨w2.heap.size, 0, none⟩) 0 0) 0 [] (by rfl) HOA.out _ (some ⟨gr, 0, none⟩) j c (ents (L.take j)) (by rfl) HRA.out HEO.out.1 (by unfold maxLen; omega) (by omega) HBZ.out ?_; intro v9 w9 hown9 hgrow hat; obtain ⟨A9, c9, rfl, hc9, _⟩ := own_form hown9; simp only [Nat.zero_add, List.nil_append] at hown9 hat; simp only [Nat.zero_add]; have HOW9 := Lib.hid (show w9.ownsRow base 57 4 (.slice A9 j c9) j (ents (L.take j)) from hown9); have HM9 := Lib.hid (pop_mid HO2.out HK2.out HX2.out HC2.out HBAH.out hgrow hat); have hfc : w9.cell? ⟨g, 0, none⟩ = some (.slice (some ⟨gr, 0, none⟩) n c) := HM9.out.kg.cell 0; clear hown9 hgrow hat hc9)
        | (refine step_append_any _ (by rfl) _ _ 39 (by rfl) base 57 i0 (.agg #[.int .i64 0, .int .i64 0, .int .i64 0, .int .i64 0]) 4 32 Try.underlying39 hi0 hz0 hz1 hz2 rfl (by decide) (.slice A9 j c9) j (ents (L.take j)) (by rfl) HOW9.out _ (some ⟨gr, (j + 1) * 4, none⟩) (n - (j + 1)) (c - (j + 1)) (ents (L.drop (j + 1))) (by rfl) (rown_drop (Reads.of_own HM9.out.own0) hjc2) HEO.out.2 (by unfold maxLen; omega) (by omega) (Nat.le_trans (Nat.le_trans hb HB2.out.size) HM9.out.size) ?_; intro v10 w10 hown10 hgrow10 hat10; obtain ⟨A10, c10, rfl, hc10, _⟩ := own_form hown10; have HOW10 := Lib.hid hown10; have HM10 := Lib.hid (HM9.out.next hgrow10 hat10);  have c0 : w10.cell? ⟨g, 0, none⟩ = some (.slice (some ⟨gr, 0, none⟩) n c) := HM10.out.kg.cell 0; have z0 := HM10.out.kg.frozen 0; clear hown10 hgrow10 hat10 hc10))
    all_goals
      have x0 : w10.cell? ⟨bx, 0, none⟩ = some (.int .i64 m0) := HM10.out.kx.cell 0
      have x1 : w10.cell? ⟨bx, 1, none⟩ = some (.int .i64 m1) := HM10.out.kx.cell 1
      have r0 : w10.cell? ⟨r, 0, none⟩ = some (.int .i64 0) := HM10.out.kr.cell 0
      have r1 : w10.cell? ⟨r, 1, none⟩ = some (.int .i64 0) := HM10.out.kr.cell 1
      have y0 := HM10.out.kr.frozen 0
      have y1 := HM10.out.kr.frozen 1
      have ng : ¬ g = r := by have := HS.out; omega
      have ngx : ¬ g = bx := by have := HS.out; omega
      have nrx : ¬ r = bx := by have := HS.out; omega
      go_wp2_with fail
      have C2 := (HM10.out.kr.far (p := ⟨g, 0, none⟩) (fun e => ng e.symm) (.slice A10 (j + (n - (j + 1))) c10)).set2 (.int .i64 m0) (.int .i64 m1)
      refine bodyPost_ret (results_elem rfl rfl (C2.cell 0) (C2.cell 1) rfl) rfl ⟨j, ⟨m0, m1, mh, mt⟩, HM.out.1, HM.out.2, rfl, ?_, ?_⟩
      · have hlen : (L.take j ++ L.drop (j + 1)).length = j + (n - (j + 1)) := by rw [List.length_append, List.length_take, List.length_drop, HN.out]; omega
        refine ⟨A10, c10, ?_, ?_, HG.out, fun k hk => ?_⟩
        · have hK := ((HM10.out.kg.set_ 0 (.slice A10 (j + (n - (j + 1))) c10)).far (p := ⟨r, 0, none⟩) ng (.int .i64 m0)).far (p := ⟨r, 1, none⟩) ng (.int .i64 m1)
          rw [hlen]
          simpa using hK
        · rw [hlen, ents_append]
          have hg1 : (Value.slice A10 (j + (n - (j + 1))) c10).ownBlock ≠ some g := own_blk_ne HOW10.out HM10.out.kg (by decide)
          have hg2 : (Value.slice A10 (j + (n - (j + 1))) c10).ownBlock ≠ some r := own_blk_ne HOW10.out HM10.out.kr (by decide)
          refine own_touch HOW10.out (F := fun k => k = g ∨ k = r) ?_ (fun k hk e => ?_)
          · exact (((Touch.refl (fun k => k = g ∨ k = r) _).setCell (p := ⟨g, 0, none⟩) (.inl (.inl rfl)) _).setCell (p := ⟨r, 0, none⟩) (.inl (.inr rfl)) _).setCell (p := ⟨r, 1, none⟩) (.inl (.inr rfl)) _
          · rcases e with e | e
            · exact hg1 (by rw [hk, e])
            · exact hg2 (by rw [hk, e])
        · rw [hlen] at hk
          have h1 := HM10.out.own _ hk
          refine ⟨fun hf => ?_, ?_⟩
          · have := HFF.out k hf
            have := HB2.out.size
            omega
          · have := HB2.out.size
            omega
      · have hr1 : r = w.heap.size := HR.out.symm
        exact (((Touch.of_below HB2.out).trans (HM10.out.touch (fun k => k = g)) (fun k hk => .inl hk)).setCell (p := ⟨g, 0, none⟩) (.inl rfl) _ |>.setCell (p := ⟨r, 0, none⟩) (.inr (by show w.heap.size ≤ r; omega)) _).setCell (p := ⟨r, 1, none⟩) (.inr (by show w.heap.size ≤ r; omega)) _
end Go.Proofs.Ytnechjedhpcffaa
