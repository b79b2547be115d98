/- The reference's improve at a rule of kind 3. -/
import Derived.Test.YthakcefgbggkcaaDoorChImp0
import Derived.BigQuiet
namespace Go.Proofs.YthakcefgbggkcaaDoor
open Go.RowKit

set_option maxRecDepth 100000 in
set_option maxHeartbeats 8000000 in
theorem improve3_any (w : World) (T st : Int) (N S nR rc nL lc nf fc nc cc B oc s t k : Nat) (RA LA FA CA OA : Option Addr) (R : List Rl) (L : List Ar) (cs own : List Cl) (r : Rl) (x : Cl)
    (hR : Reads w B 6 RA nR (rls R)) (hL : Reads w B 5 LA nL (ars L)) (hC : Reads w B 4 CA nc (cls cs)) (hO : Reads w B 4 OA N (cls own)) (hB : B ≤ w.heap.size)
    (hN : N ≤ 1000) (hS : S ≤ 200) (hnc : nc ≤ 1000000000) (hnL : nL ≤ 1000000000) (hst : s ≤ t) (htS : t < S) (hr : R[k]? = some r) (hok : r.Ok N) (hLok : ArsOk S L) (hx : own[r.hd.toNat]? = some x) (hord : ∀ y, Nrm (spv (CC N S cs) s t (vf own) y)) (hk : r.k = 3) :
    Calls Tryd.prog 42 #[.agg #[.int .i64 T, .int .i64 N, .int .i64 st, .slice RA nR rc], .agg #[.int .i64 S, .slice LA nL lc, .slice FA nf fc], .agg #[.int .i64 N, .int .i64 S, .slice CA nc cc], .slice OA N oc, .int .i64 s, .int .i64 t, .int .i64 k] w fun e w' =>
      e = .returned (.agg #[.int .i64 (impr (spv (CC N S cs) s t (vf own)) k (insts L s t r) x).v.c, .int .i64 (impr (spv (CC N S cs) s t (vf own)) k (insts L s t r) x).v.s, .int .i64 (impr (spv (CC N S cs) s t (vf own)) k (insts L s t r) x).r, .int .i64 (impr (spv (CC N S cs) s t (vf own)) k (insts L s t r) x).a]) ∧ Below w.heap.size w w' := by
  have _hu := And.intro hst (And.intro htS (And.intro hN (And.intro hS (And.intro hnc hnL))))
  clear _hu
  obtain ⟨V, hV⟩ : ∃ V, spv (CC N S cs) s t (vf own) = V := ⟨_, rfl⟩
  have HVAL : Hid (∀ w9, Below w.heap.size w w9 → ∀ (h f u : Int), (0 ≤ h ∧ h < N) → Calls Tryd.prog 55 #[.agg #[.int .i64 N, .int .i64 S, .slice CA nc cc], .slice OA N oc, .int .i64 s, .int .i64 t, .agg #[.int .i64 h, .int .i64 f, .int .i64 u]] w9 fun e w' => e = .returned (.agg #[.int .i64 (V ⟨h, f, u⟩).c, .int .i64 (V ⟨h, f, u⟩).s]) ∧ Below w9.heap.size w9 w') := fun w9 h9 h f u hh => by
    rw [← hV]
    exact rvalue_any w9 N S nc cc w.heap.size N oc s t CA OA cs own ⟨h, f, u⟩ ((hC.more hB).below h9) ((hO.more hB).below h9) h9.size (by omega) (by omega) (by omega) hh
  rw [hV] at hord ⊢
  clear hV
  obtain ⟨rk, rhd, ra, rb, rp, ro⟩ := r
  simp only at hk hx
  subst hk
  have hp := hok.p
  have hrk := hok.k
  have hhd := hok.hd
  simp only at hp hrk hhd
  obtain ⟨hd, rfl⟩ := Int.eq_ofNat_of_zero_le hhd.1
  have hhN : hd < N := by omega
  rw [Int.toNat_natCast] at hx
  obtain ⟨ρ, hρ⟩ : ∃ ρ, impr V k (insts L s t ⟨3, hd, ra, rb, rp, ro⟩) x = ρ := ⟨_, rfl⟩
  rw [hρ]
  have HRHO := Lib.hid hρ
  clear hρ
  obtain ⟨bn, hbn⟩ : ∃ bn, w.heap.size = bn := ⟨_, rfl⟩
  have hBn : B ≤ bn := by omega
  have hb4 : Below bn w ((((w.alloc (.cells #[.int .i64 T, .int .i64 N, .int .i64 st, .slice RA nR rc] 24)).alloc (.cells #[.int .i64 S, .slice LA nL lc, .slice FA nf fc] 28)).alloc (.cells #[.int .i64 N, .int .i64 S, .slice CA nc cc] 34)).alloc (.cells #[.int .i64 0, .int .i64 0, .int .i64 0, .int .i64 0] 47)) :=
    ((((Below.refl _ _).alloc (by omega) _).alloc (by simp; omega) _).alloc (by simp; omega) _).alloc (by simp; omega) _
  have hb5 := hb4.alloc (by simp; omega) (.cells #[.int .i64 3, .int .i64 hd, .int .i64 ra, .int .i64 rb, .int .i64 rp, .int .i64 ro] 65)
  have hkR : k < nR := by rw [← hR.len_rls]; exact (List.getElem?_eq_some_iff.1 hr).1
  obtain ⟨br, offr, r', hRA, hbr, hr', p0, p1, p2, p3, p4, p5⟩ := ((hR.more hBn).below hb4).rl_at hkR
  rw [hr] at hr'
  injection hr' with hr'
  subst hr'
  obtain ⟨bo, offo, x', hOA, hbo, hx', c0, c1, c2, c3⟩ := ((hO.more hBn).below hb5).cl_at hhN
  rw [hx] at hx'
  injection hx' with hx'
  subst hx'
  obtain ⟨k1, hk1⟩ : ∃ k1 : Array Value, #[.int .i64 T, .int .i64 N, .int .i64 st, .slice RA nR rc] = k1 := ⟨_, rfl⟩
  obtain ⟨k2, hk2⟩ : ∃ k2 : Array Value, #[.int .i64 S, .slice LA nL lc, .slice FA nf fc] = k2 := ⟨_, rfl⟩
  obtain ⟨k3, hk3⟩ : ∃ k3 : Array Value, #[.int .i64 N, .int .i64 S, .slice CA nc cc] = k3 := ⟨_, rfl⟩
  obtain ⟨k5, hk5⟩ : ∃ k5 : Array Value, #[.int .i64 3, .int .i64 hd, .int .i64 ra, .int .i64 rb, .int .i64 rp, .int .i64 ro] = k5 := ⟨_, rfl⟩
  obtain ⟨W, hW⟩ : ∃ W, ((((((w.alloc (.cells #[.int .i64 T, .int .i64 N, .int .i64 st, .slice RA nR rc] 24)).alloc (.cells #[.int .i64 S, .slice LA nL lc, .slice FA nf fc] 28)).alloc (.cells #[.int .i64 N, .int .i64 S, .slice CA nc cc] 34)).alloc (.cells #[.int .i64 0, .int .i64 0, .int .i64 0, .int .i64 0] 47)).alloc (.cells #[.int .i64 3, .int .i64 hd, .int .i64 ra, .int .i64 rb, .int .i64 rp, .int .i64 ro] 65)).alloc (.cells #[.int .i64 x.v.c, .int .i64 x.v.s, .int .i64 x.r, .int .i64 x.a] 47)) = W := ⟨_, rfl⟩
  have HI0 : Hid (IM w W bn k1 k2 k3 k5 x) := by
    rw [← hW, ← hk1, ← hk2, ← hk3, ← hk5]
    refine ⟨(((((Blk.new' w _ _ hbn).alloc _).alloc _).alloc _).alloc _).alloc _, ((((Blk.new' _ _ _ (by simp; omega)).alloc _).alloc _).alloc _).alloc _, (((Blk.new' _ _ _ (by simp; omega)).alloc _).alloc _).alloc _, ((Blk.new' _ _ _ (by simp; omega)).alloc _).alloc _, (Blk.new' _ _ _ (by simp; omega)).alloc _, Blk.new' _ _ _ (by simp; omega), ?_⟩
    exact hb5.alloc (by simp; omega) _
  have HL := Lib.hid (hL.more hBn)
  have HLN := Lib.hid hL.len_ars
  have HK := Lib.hid (And.intro hk1 (And.intro hk2 (And.intro hk3 hk5)))
  have HW := Lib.hid hW
  have HBN := Lib.hid hbn
  have HORD := Lib.hid hord
  have HLO := Lib.hid hLok
  have HVB : Hid (∀ w9 : World, Below bn w w9 → Below w.heap.size w w9) := fun w9 h => by rw [hbn]; exact h
  clear hR hL hC hO hB hk1 hk2 hk3 hk5 hW hb4 hb5 hr hx hord hLok hok hBn hhd
  subst hRA hOA
  go_enter Tryd.func42, Tryd.ntmps42
  go_upto_region 1 with fail
  try rw [hbn]
  go_upto_region 3 with fail
  try rw [HW.out]
  clear p0 p1 p2 p3 p4 p5 c0 c1 c2 c3
  have n0 : W.cell? ⟨bn + 1 + 1 + 1 + 1, 0, none⟩ = some (.int .i64 3) := by have := HI0.out.k5.cell 0; rw [← HK.out.2.2.2] at this; simpa using this
  have hra : 0 ≤ ra ∧ ra < N := by omega
  obtain ⟨u, hu⟩ : ∃ u, V ⟨ra, s, t⟩ = u := ⟨_, rfl⟩
  have huo : Nrm u := by rw [← hu]; exact HORD.out _
  obtain ⟨v, hv⟩ : ∃ v, comb rp [u] = v := ⟨_, rfl⟩
  obtain ⟨z, hz⟩ : ∃ z, btr x v k s = z := ⟨_, rfl⟩
  have HBT : Hid (∀ w9 : World, Calls Tryd.prog 54 #[.agg #[.int .i64 x.v.c, .int .i64 x.v.s, .int .i64 x.r, .int .i64 x.a], .agg #[.int .i64 v.c, .int .i64 v.s], .int .i64 k, .int .i64 s] w9 fun e w' => e = .returned (.agg #[.int .i64 z.v.c, .int .i64 z.v.s, .int .i64 z.r, .int .i64 z.a]) ∧ Below w9.heap.size w9 w') := fun w9 => by rw [← hz]; exact better_any w9 x v k s
  have hres : ρ = z := by
    rw [← hz, ← HRHO.out, ← hv, ← hu]
    simp [insts, impr, iv]
  have HRES := Lib.hid hres
  have HVL : Hid (Calls Tryd.prog 55 #[.agg #[.int .i64 N, .int .i64 S, .slice CA nc cc], .slice (some ⟨bo, offo, none⟩) N oc, .int .i64 s, .int .i64 t, .agg #[.int .i64 ra, .int .i64 s, .int .i64 t]] W fun e w' => e = .returned (.agg #[.int .i64 u.c, .int .i64 u.s]) ∧ Below W.heap.size W w') := by
    rw [← hu]
    exact HVAL.out W (HVB.out _ HI0.out.below) ra s t hra
  have x0 : W.cell? ⟨bn + 1 + 1, 0, none⟩ = some (.int .i64 N) := by have := HI0.out.k3.cell 0; rw [← HK.out.2.2.1] at this; simpa using this
  have x1 : W.cell? ⟨bn + 1 + 1, 1, none⟩ = some (.int .i64 S) := by have := HI0.out.k3.cell 1; rw [← HK.out.2.2.1] at this; simpa using this
  have x2 : W.cell? ⟨bn + 1 + 1, 2, none⟩ = some (.slice CA nc cc) := by have := HI0.out.k3.cell 2; rw [← HK.out.2.2.1] at this; simpa using this
  have r2 : W.cell? ⟨bn + 1 + 1 + 1 + 1, 2, none⟩ = some (.int .i64 ra) := by have := HI0.out.k5.cell 2; rw [← HK.out.2.2.2] at this; simpa using this
  have HCB0 : Hid (∀ w9 : World, Calls Tryd.prog 25 #[.int .i64 rp, .slice (some ⟨w9.heap.size, 0, none⟩) 1 1] (w9.alloc (.cells #[.int .i64 u.c, .int .i64 u.s] 45)).drew fun e w' => e = .returned (.agg #[.int .i64 v.c, .int .i64 v.s]) ∧ Below (w9.alloc (.cells #[.int .i64 u.c, .int .i64 u.s] 45)).drew.heap.size (w9.alloc (.cells #[.int .i64 u.c, .int .i64 u.s] 45)).drew w') := fun w9 => by
    rw [← hv]
    exact rcombine_any rp (some ⟨w9.heap.size, 0, none⟩) 1 1 (w9.heap.size + 1) [u] _ (reads_one w9 u).drew (by simp [World.drew]) (by omega) (by omega) (by intro q hq; simp at hq; rw [hq]; exact huo.1) (by omega)
  clear hu hv hz hres hra
  go_upto_region 20 with fail
  go_upto_region 21 with (go_at_call 55; with_reducible refine HVL.out.mono ?_; rintro e w4 ⟨rfl, hb4⟩; have HI4 := Lib.hid (HI0.out.next hb4); clear hb4)
  obtain ⟨bu, hbu⟩ : ∃ bu, w4.heap.size = bu := ⟨_, rfl⟩
  obtain ⟨wq, hwq⟩ : ∃ wq, w4.alloc (.cells #[.int .i64 u.c, .int .i64 u.s] 45) = wq := ⟨_, rfl⟩
  have HIQ : Hid (IM w wq bn k1 k2 k3 k5 x) := by rw [← hwq]; exact HI4.out.next ((Below.refl _ _).alloc (Nat.le_refl _) _)
  have HKU : Hid (Blk wq bu 45 #[.int .i64 u.c, .int .i64 u.s]) := by rw [← hwq]; exact Blk.new' _ _ _ hbu
  have HCB := Lib.hid (HCB0.out wq)
  rw [hwq, hbu]
  have g0 : wq.drew.cell? ⟨bu, 0, none⟩ = some (.int .i64 u.c) := by have := HKU.out.cell 0; simpa using this
  have g1 : wq.drew.cell? ⟨bu, 1, none⟩ = some (.int .i64 u.s) := by have := HKU.out.cell 1; simpa using this
  clear hwq hbu HI0 HI4 HVL x0 x1 x2 r2 n0
  have H9 : Hid (∀ (w' : World) (y' : Cl), IM w w' bn k1 k2 k3 k5 y' → w'.cell? ⟨bn + 1 + 1 + 1 + 1, 4, none⟩ = some (.int .i64 rp)) := fun w9 y9 K => by
    have K5 := K.k5.cell 4
    rw [← HK.out.2.2.2] at K5
    exact K5
  have B8 : Below wq.heap.size wq wq.drew := (Below.refl _ _).drew
  have D8 := (HIQ.out.next B8).k6
  have d0 := D8.cell 0
  have d1 := D8.cell 1
  have d2 := D8.cell 2
  have d3 := D8.cell 3
  simp at d0 d1 d2 d3
  clear D8
  have B8a : Below wq.heap.size wq (wq.alloc (.cells #[.int .i64 u.c, .int .i64 u.s] 45)).drew := ((Below.refl _ wq).alloc (Nat.le_refl _) _).drew
  have D9 := (HIQ.out.next B8a).k6
  have f0 := D9.cell 0
  have f1 := D9.cell 1
  have f2 := D9.cell 2
  have f3 := D9.cell 3
  simp at f0 f1 f2 f3
  clear D9
  simp only [ldC_eq, ldV_eq]
  go_region_held3 (fun w' => w'.cell? ⟨bn + 1 + 1 + 1 + 1, 4, none⟩ = some (.int .i64 rp))
    (first | exact H9.out _ _ (HIQ.out.next B8) | exact H9.out _ _ (HIQ.out.next B8a) | exact H9.out _ _ (HIQ.out.next X5) | exact H9.out _ _ HI7.out | exact H9.out _ _ (HI7.out.put z))
    (first | (go_at_call 25; (with_reducible refine HCB.out.mono ?_); rintro e5 w5 ⟨rfl, hb5⟩; have X5 : Below wq.heap.size wq w5 := B8a.trans (hb5.mono B8a.size); have D5 := (HIQ.out.next X5).k6; have e0 := D5.cell 0; have e1 := D5.cell 1; have e2 := D5.cell 2; have e3 := D5.cell 3; simp at e0 e1 e2 e3; clear D5) | (go_at_call 54; (with_reducible refine (HBT.out _).mono ?_); rintro e7 w7 ⟨rfl, hb7⟩; have X7 : Below wq.heap.size wq w7 := X5.trans (hb7.mono X5.size); have HI7 := Lib.hid (HIQ.out.next X7); have y0 := HI7.out.k6.cell 0; have y1 := HI7.out.k6.cell 1; have y2 := HI7.out.k6.cell 2; have y3 := HI7.out.k6.cell 3; simp at y0 y1 y2 y3; have q0 := HI7.out.k6.frozen 0; have q1 := HI7.out.k6.frozen 1; have q2 := HI7.out.k6.frozen 2; have q3 := HI7.out.k6.frozen 3))
  all_goals
    go_upto_region 22 with fail
    have HIE := Lib.hid (HI7.out.put z)
    clear y0 y1 y2 y3 q0 q1 q2 q3
    have a0 := HIE.out.k6.cell 0
    have a1 := HIE.out.k6.cell 1
    have a2 := HIE.out.k6.cell 2
    have a3 := HIE.out.k6.cell 3
    have b0 := HIE.out.k4.cell 0
    have b1 := HIE.out.k4.cell 1
    have b2 := HIE.out.k4.cell 2
    have b3 := HIE.out.k4.cell 3
    have z0 := HIE.out.k4.frozen 0
    have z1 := HIE.out.k4.frozen 1
    have z2 := HIE.out.k4.frozen 2
    have z3 := HIE.out.k4.frozen 3
    simp at a0 a1 a2 a3 b0 b1 b2 b3
    go_wp2_with fail
    have r1 := HIE.out.k4.set4 (.int .i64 z.v.c) (.int .i64 z.v.s) (.int .i64 z.r) (.int .i64 z.a)
    refine bodyPost_ret (results_cl rfl rfl (r1.cell 0) (r1.cell 1) (r1.cell 2) (r1.cell 3)) rfl ⟨by rw [HRES.out], ?_⟩
    rw [HBN.out]
    exact at_below HIE.out.below (by omega) _ _ _ _
end Go.Proofs.YthakcefgbggkcaaDoor
