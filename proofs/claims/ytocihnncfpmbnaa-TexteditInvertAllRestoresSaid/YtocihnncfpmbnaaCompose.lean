/- Compose returns the composed edit. -/
import Derived.Test.YtocihnncfpmbnaaWith
namespace Go.Proofs.Ytocihnncfpmbnaa
open Go.RowKit

/-- What the loop over the edits behind the first ones holds. -/
structure Comp (s : ByteArray) (l : List Ed) (k : Nat) (T : ByteArray) (h : Hl) : Prop where
  inv : HInv s T h
  res : apAll s l = apAll T (l.drop k)
  hull : (l.drop k).foldl Hl.add h = hullOf l
  size : T.size + sumIns (l.drop k) ≤ 1000000
theorem Comp.first {s : ByteArray} {e : Ed} {l : List Ed} (h0 : (apAll s (e :: l)).2 = 0) (hs : s.size + sumIns (e :: l) ≤ 1000000) : Comp s (e :: l) 1 (apT s e) ⟨e.pos, e.pos + e.del, e.pos + e.ins.size⟩ := by
  have hok := ok_first h0
  obtain ⟨h1, h3, h4, h5⟩ := Ed.ok_iff.1 hok
  have hf := hull_first e h3
  refine ⟨?_, ?_, ?_, ?_⟩
  · rw [← hf]; exact (HInv.refl s e.pos h1 h4).add hok
  · rw [apAll_ok hok]; rfl
  · simp only [hullOf, List.foldl_cons, hf, List.drop_succ_cons, List.drop_zero]
  · have := apT_size s e
    simp only [sumIns, List.map_cons, List.sum_cons] at hs
    simp only [sumIns, List.drop_succ_cons, List.drop_zero]
    omega
theorem Comp.step {s : ByteArray} {l : List Ed} {k : Nat} {T : ByteArray} {h : Hl} {e : Ed} (hc : Comp s l k T h) (he : l[k]? = some e) (h0 : (apAll s l).2 = 0) : e.ok T.size = true ∧ Comp s l (k + 1) (apT T e) (h.add e) := by
  obtain ⟨i, r, u, z⟩ := hc
  rw [drop_cons_ed he] at r u z
  have hok : e.ok T.size = true := ok_first (by rw [← r]; exact h0)
  refine ⟨hok, ⟨i.add hok, ?_, u, ?_⟩⟩
  · rw [r, apAll_ok hok]
  · have := apT_size T e
    simp only [sumIns, List.map_cons, List.sum_cons] at z
    simp only [sumIns]
    omega
theorem Comp.bd {s : ByteArray} {l : List Ed} {k : Nat} {T : ByteArray} {h : Hl} (hc : Comp s l k T h) (hs : s.size ≤ 1000000) : (0 ≤ h.f ∧ h.f ≤ 1000000000) ∧ (0 ≤ h.o ∧ h.o ≤ 1000000000) ∧ (0 ≤ h.n ∧ h.n ≤ 1000000000) := by
  obtain ⟨⟨f0, fn, nT, fo, os, eq, _, _⟩, _, _, z⟩ := hc
  omega
theorem compE_no {s : ByteArray} {l : List Ed} (h : ¬ ((apAll s l).2 = 0 ∧ l ≠ [])) : compE s l = ed0 := by unfold compE; rw [if_neg h]

set_option maxRecDepth 100000 in
set_option maxHeartbeats 1000000 in
theorem compose_any (s : ByteArray) (A : Option Addr) (n c B : Nat) (l : List Ed) (w : World) (hl : Reads w B 3 A n (eds l)) (hB : B ≤ w.heap.size) (hn : n ≤ c) (hc : c ≤ maxLen) (hs : s.size + sumIns l ≤ 1000000) :
    Calls Try.prog 19 #[.string s, .slice A n c] w
      fun e w' => e = .returned (.tuple #[.agg #[.int .i64 (compE s l).pos, .int .i64 (compE s l).del, .string (compE s l).ins], .int .i64 (apAll s l).2]) ∧ Below w.heap.size w w' := by
  have HL := Lib.hid hl
  have HLN := Lib.hid hl.len_eds
  have HS := Lib.hid hs
  unfold maxLen at hc
  have k0 := Blk.new' w 23 #[.int .i64 0, .int .i64 0, .string ⟨#[]⟩] rfl
  have hb0 : Below w.heap.size w (w.alloc (.cells #[.int .i64 0, .int .i64 0, .string ⟨#[]⟩] 23)) := (Below.refl _ _).alloc (Nat.le_refl _) _
  clear hl hs
  go_enter Try.func19, Try.ntmps19
  go_wp2_with fail
  refine (applyAll_any s A n c B l _ (HL.out.alloc hB _) (by simp; omega) (by unfold maxLen; omega) (by have := HS.out; omega)).mono ?_
  rintro e w1 ⟨rfl, hb1⟩
  have hs1 := hb1.size
  simp only [World.size_alloc] at hs1 hb1
  have k1 := k0.below hb1 (by omega)
  have hb01 : Below w.heap.size w w1 := hb0.trans (hb1.mono (by omega))
  have d0 := k1.cell 0
  have d1 := k1.cell 1
  have d2 := k1.cell 2
  have f0 := k1.frozen 0
  have f1 := k1.frozen 1
  have f2 := k1.frozen 2
  simp at d0 d1 d2
  clear k0 hb0
  by_cases hgo : (apAll s l).2 = 0 ∧ l ≠ []
  case neg =>
    have HN := Lib.hid (compE_no hgo)
    have hx : ((apAll s l).2 != 0) = true ∨ (((apAll s l).2 != 0) = false ∧ n = 0) := by
      have := HLN.out
      by_cases h : (apAll s l).2 = 0
      · right
        refine ⟨by simp [h], ?_⟩
        rcases l with _ | ⟨e, l⟩
        · simpa using this.symm
        · exact absurd ⟨h, by simp⟩ hgo
      · left; simp [h]
    clear hgo
    rcases hx with t1 | ⟨t1, t2⟩
    · go_wp2_with fail
      have r1 := k1.set3 (.int .i64 0) (.int .i64 0) (.string ⟨#[]⟩)
      refine bodyPost_ret (results_edit_int rfl rfl (r1.cell 0) (r1.cell 1) (r1.cell 2) rfl) rfl ⟨by rw [HN.out]; rfl, ?_⟩
      exact ((hb01.setCell (by simp) _).setCell (by simp) _).setCell (by simp) _
    · subst t2
      go_wp2_with fail
      have r1 := k1.set3 (.int .i64 0) (.int .i64 0) (.string ⟨#[]⟩)
      refine bodyPost_ret (results_edit_int rfl rfl (r1.cell 0) (r1.cell 1) (r1.cell 2) rfl) rfl ⟨by rw [HN.out]; rfl, ?_⟩
      exact ((hb01.setCell (by simp) _).setCell (by simp) _).setCell (by simp) _
  obtain ⟨hr0, hne⟩ := hgo
  have hn0 : 0 < n := by
    have := HLN.out
    rcases l with _ | ⟨e, l⟩
    · exact absurd rfl hne
    · simp at this; omega
  have t1 : ((apAll s l).2 != 0) = false := by simp [hr0]
  have t2 : ((n : Int) == 0) = false := by rw [beq_eq_false_iff_ne]; omega
  obtain ⟨b, off, x, rfl, hbl, hx, h0, h1, h2⟩ := (HL.out.below (hb01.mono hB)).ed_at hn0
  rw [Nat.zero_mul, Nat.add_zero] at h0 h1 h2
  have hC : Comp s l 1 (apT s x) ⟨x.pos, x.pos + x.del, x.pos + x.ins.size⟩ := by
    have hd := drop_cons_ed hx
    rw [List.drop_zero] at hd
    have e1 := HS.out
    rw [hd] at hr0 e1 ⊢
    exact Comp.first hr0 e1
  have hbd := hC.bd (by have := HS.out; omega)
  have HC := Lib.hid hC
  have HR0 := Lib.hid hr0
  have hit : x.ins.size ≤ 1000000000 := by
    have := HS.out
    have hd := drop_cons_ed hx
    rw [List.drop_zero] at hd
    rw [hd] at this
    simp only [sumIns, List.map_cons, List.sum_cons] at this
    omega
  obtain ⟨xp, xd, xi⟩ := x
  simp only at h0 h1 h2 hbd hit
  obtain ⟨⟨b1, b2⟩, ⟨b3, b4⟩, ⟨b5, b6⟩⟩ := hbd
  have w1' : IntKind.i64.wrap (xp + xd) = xp + xd := IntWalk.i64_in _ (by omega)
  have w2' : IntKind.i64.wrap (xp + (xi.size : Int)) = xp + xi.size := IntWalk.i64_in _ (by omega)
  clear hx hC hne
  have HC1 : Hid (c = 1 → n = 1) := fun h => by omega
  by_cases hc1 : c = 1
  case pos =>
    have HCC := Lib.hid hc1
    go_wp2_with fail
    go_region_held3 (fun w' => w'.cell? ⟨b, off, none⟩ = some (.int .i64 xp) ∧ w'.cell? ⟨b, off + 1, none⟩ = some (.int .i64 xd) ∧ w'.cell? ⟨b, off + 2, none⟩ = some (.string xi)) (go_keep) (fail)
    go_wp2_with fail
    go_loopw [54] (fun a wr => ∃ (k : Nat) (T : ByteArray) (h : Hl), k + 1 ≤ n ∧ a = .int .i64 k ∧ Hid (Comp s l (k + 1) T h) ∧ Blk wr w1.heap.size 45 #[.int .i64 h.f, .int .i64 h.o, .int .i64 h.n] ∧
        Blk wr w.heap.size 23 #[.int .i64 0, .int .i64 0, .string ⟨#[]⟩] ∧ Below w.heap.size w wr ∧ w1.heap.size < wr.heap.size) (fun a _ => n - (intOf a).toNat)
    case atStart =>
      exact ⟨0, _, _, by omega, rfl, HC.out, (Blk.new' w1 _ _ rfl).drewN 1, (k1.alloc _).drewN 1, below_drewN (hb01.alloc (by omega) _) 1, by simp [World.drew]⟩
    case round =>
      obtain ⟨k, T, h, hk, rfl, HC, B8, B4, hb, hsz⟩ := hrel
      have c0 := B8.cell 0
      have c1 := B8.cell 1
      have c2 := B8.cell 2
      simp at c0 c1 c2
      have hbd := HC.out.bd (by have := HS.out; omega)
      have hnW := World.size_alloc wr
      by_cases hlt : k < n - 1
      · exfalso; have := HC1.out HCC.out; omega
      · have hk1 : k + 1 = n := by omega
        have hltI : ¬ (k : Int) < ((n - 1 : Nat) : Int) := by omega
        have hltD : decide (k < n - 1) = false := by simp; omega
        have hfin : h = hullOf l ∧ (apAll s l).1 = T := by
          have hd : l.drop (k + 1) = [] := List.drop_eq_nil_of_le (by have := HLN.out; omega)
          have e1 := HC.out.hull
          have e2 := HC.out.res
          rw [hd] at e1 e2
          exact ⟨e1, by rw [e2]; rfl⟩
        have hce : compE s l = ⟨h.f, h.o - h.f, T.extract h.f.toNat h.n.toNat⟩ := by
          have hne : l ≠ [] := by
            rintro rfl
            have := HLN.out
            simp at this
            omega
          unfold compE
          rw [if_pos ⟨HR0.out, hne⟩, hfin.2, hfin.1]
        have HCE := Lib.hid hce
        have HFT := Lib.hid hfin.2
        obtain ⟨_, hfn, hnT, hfo, _, _, _, _⟩ := HC.out.inv
        obtain ⟨hf, ho, hnn⟩ := h
        simp only at c0 c1 c2 hbd hfn hnT hfo HCE
        obtain ⟨⟨b1', b2'⟩, ⟨b3', b4'⟩, ⟨b5', b6'⟩⟩ := hbd
        obtain ⟨fN, rfl⟩ := Int.eq_ofNat_of_zero_le b1'
        obtain ⟨nN, rfl⟩ := Int.eq_ofNat_of_zero_le b5'
        rw [Int.toNat_natCast, Int.toNat_natCast] at HCE
        have w1' : IntKind.i64.wrap (ho - (fN : Int)) = ho - fN := IntWalk.i64_in _ (by omega)
        have x0 := B4.cell 0
        have x1 := B4.cell 1
        have x2 := B4.cell 2
        have y0 := B4.frozen 0
        have y1 := B4.frozen 1
        have y2 := B4.frozen 2
        simp at x0 x1 x2
        have w3' : fN ≤ nN := by omega
        have w4' : nN ≤ T.size := by omega
        clear hfin hce
        go_wp2_with fail
        rw [HFT.out]
        go_still_tail 14, (by kernel_rfl)
        change wpList _ _ _ _ _ wr.drew
        go_wp2_with fail
        have r1 := (B4.drewN 1).set3 (.int .i64 fN) (.int .i64 (ho - fN)) (.string (T.extract fN nN))
        refine bodyPost_ret (results_edit_int rfl rfl (r1.cell 0) (r1.cell 1) (r1.cell 2) rfl) rfl ⟨by rw [HCE.out, HR0.out]; rfl, ?_⟩
        exact (((below_drewN hb 1).setCell (by simp) _).setCell (by simp) _).setCell (by simp) _
  case neg =>
    have HCC := Lib.hid hc1
    go_wp2_with fail
    go_region_held3 (fun w' => w'.cell? ⟨b, off, none⟩ = some (.int .i64 xp) ∧ w'.cell? ⟨b, off + 1, none⟩ = some (.int .i64 xd) ∧ w'.cell? ⟨b, off + 2, none⟩ = some (.string xi)) (go_keep) (fail)
    go_wp2_with fail
    go_loopw [54] (fun a wr => ∃ (k : Nat) (T : ByteArray) (h : Hl), k + 1 ≤ n ∧ a = .int .i64 k ∧ Hid (Comp s l (k + 1) T h) ∧ Blk wr w1.heap.size 45 #[.int .i64 h.f, .int .i64 h.o, .int .i64 h.n] ∧
        Blk wr w.heap.size 23 #[.int .i64 0, .int .i64 0, .string ⟨#[]⟩] ∧ Below w.heap.size w wr ∧ w1.heap.size < wr.heap.size) (fun a _ => n - (intOf a).toNat)
    case atStart =>
      exact ⟨0, _, _, by omega, rfl, HC.out, (Blk.new' w1 _ _ rfl).drewN 1, (k1.alloc _).drewN 1, below_drewN (hb01.alloc (by omega) _) 1, by simp [World.drew]⟩
    case round =>
      obtain ⟨k, T, h, hk, rfl, HC, B8, B4, hb, hsz⟩ := hrel
      have c0 := B8.cell 0
      have c1 := B8.cell 1
      have c2 := B8.cell 2
      simp at c0 c1 c2
      have hbd := HC.out.bd (by have := HS.out; omega)
      have hnW := World.size_alloc wr
      by_cases hlt : k < n - 1
      · have hkn : k + 1 < n := by omega
        obtain ⟨b', off', y, e1, hbl', hy, g0, g1, g2⟩ := (HL.out.below (hb.mono hB)).ed_at hkn
        injection e1 with e1
        injection e1 with e1 e2
        subst e1; subst e2
        rw [show off + (k + 1) * 3 = off + 3 + k * 3 by omega] at g0 g1 g2
        obtain ⟨hok, hC2⟩ := HC.out.step hy HR0.out
        have HC2 := Lib.hid hC2
        obtain ⟨j1, j2, j3, j4⟩ := Ed.ok_iff.1 hok
        have hTz : T.size ≤ 1000000 := by have := HC.out.size; omega
        have hyi : y.ins.size ≤ 1000000000 := by
          have := HC.out.size
          rw [drop_cons_ed hy] at this
          simp only [sumIns, List.map_cons, List.sum_cons] at this
          omega
        have hltI : (k : Int) < ((n - 1 : Nat) : Int) := by omega
        have hltD : decide (k < n - 1) = true := by simp; omega
        obtain ⟨yp, yd, yi⟩ := y
        obtain ⟨hf, ho, hnn⟩ := h
        simp only at g0 g1 g2 j1 j2 j3 j4 hyi c0 c1 c2 hbd
        obtain ⟨⟨b1', b2'⟩, ⟨b3', b4'⟩, ⟨b5', b6'⟩⟩ := hbd
        have e0 := cell_alloc c0 (.cells #[.int .i64 yp, .int .i64 yd, .string yi] 23)
        have e1 := cell_alloc c1 (.cells #[.int .i64 yp, .int .i64 yd, .string yi] 23)
        have e2 := cell_alloc c2 (.cells #[.int .i64 yp, .int .i64 yd, .string yi] 23)
        have B8' := B8.alloc (.cells #[.int .i64 yp, .int .i64 yd, .string yi] 23)
        have B4' := B4.alloc (.cells #[.int .i64 yp, .int .i64 yd, .string yi] 23)
        have hb' := hb.alloc hb.size (.cells #[.int .i64 yp, .int .i64 yd, .string yi] 23)
        have hsb := hb.size
        clear hy hok hC2
        go_wp2_with (go_at_call 28; refine (with_any hf ho hnn yp yd yi _ ⟨b1', b2'⟩ ⟨b3', b4'⟩ ⟨b5', b6'⟩ ⟨j1, by omega⟩ ⟨j2, by omega⟩ hyi).mono ?_; rintro e w2 ⟨rfl, hb2⟩; have R8 := B8'.below hb2 (by simp; omega); have f0 := R8.frozen 0; have f1 := R8.frozen 1; have f2 := R8.frozen 2; have r0 := R8.cell 0; have r1 := R8.cell 1; have r2 := R8.cell 2; simp at r0 r1 r2)
        go_roundw
        case rel =>
          refine ⟨k + 1, apT T ⟨yp, yd, yi⟩, Hl.add ⟨hf, ho, hnn⟩ ⟨yp, yd, yi⟩, by omega, by go_num, HC2.out, R8.set3 _ _ _, (((B4'.below hb2 (by simp; omega)).far (by simp; omega) _).far (by simp; omega) _).far (by simp; omega) _, ?_, ?_⟩
          · exact (((hb'.trans (hb2.mono (by simp; omega))).setCell (by simp; omega) _).setCell (by simp; omega) _).setCell (by simp; omega) _
          · have := hb2.size
            simp at this
            simp
            omega
        case measure => simp [intOf]; omega
      · have hk1 : k + 1 = n := by omega
        have hltI : ¬ (k : Int) < ((n - 1 : Nat) : Int) := by omega
        have hltD : decide (k < n - 1) = false := by simp; omega
        have hfin : h = hullOf l ∧ (apAll s l).1 = T := by
          have hd : l.drop (k + 1) = [] := List.drop_eq_nil_of_le (by have := HLN.out; omega)
          have e1 := HC.out.hull
          have e2 := HC.out.res
          rw [hd] at e1 e2
          exact ⟨e1, by rw [e2]; rfl⟩
        have hce : compE s l = ⟨h.f, h.o - h.f, T.extract h.f.toNat h.n.toNat⟩ := by
          have hne : l ≠ [] := by
            rintro rfl
            have := HLN.out
            simp at this
            omega
          unfold compE
          rw [if_pos ⟨HR0.out, hne⟩, hfin.2, hfin.1]
        have HCE := Lib.hid hce
        have HFT := Lib.hid hfin.2
        obtain ⟨_, hfn, hnT, hfo, _, _, _, _⟩ := HC.out.inv
        obtain ⟨hf, ho, hnn⟩ := h
        simp only at c0 c1 c2 hbd hfn hnT hfo HCE
        obtain ⟨⟨b1', b2'⟩, ⟨b3', b4'⟩, ⟨b5', b6'⟩⟩ := hbd
        obtain ⟨fN, rfl⟩ := Int.eq_ofNat_of_zero_le b1'
        obtain ⟨nN, rfl⟩ := Int.eq_ofNat_of_zero_le b5'
        rw [Int.toNat_natCast, Int.toNat_natCast] at HCE
        have w1' : IntKind.i64.wrap (ho - (fN : Int)) = ho - fN := IntWalk.i64_in _ (by omega)
        have x0 := B4.cell 0
        have x1 := B4.cell 1
        have x2 := B4.cell 2
        have y0 := B4.frozen 0
        have y1 := B4.frozen 1
        have y2 := B4.frozen 2
        simp at x0 x1 x2
        have w3' : fN ≤ nN := by omega
        have w4' : nN ≤ T.size := by omega
        clear hfin hce
        go_wp2_with fail
        rw [HFT.out]
        go_still_tail 14, (by kernel_rfl)
        change wpList _ _ _ _ _ wr.drew
        go_wp2_with fail
        have r1 := (B4.drewN 1).set3 (.int .i64 fN) (.int .i64 (ho - fN)) (.string (T.extract fN nN))
        refine bodyPost_ret (results_edit_int rfl rfl (r1.cell 0) (r1.cell 1) (r1.cell 2) rfl) rfl ⟨by rw [HCE.out, HR0.out]; rfl, ?_⟩
        exact (((below_drewN hb 1).setCell (by simp) _).setCell (by simp) _).setCell (by simp) _
end Go.Proofs.Ytocihnncfpmbnaa
