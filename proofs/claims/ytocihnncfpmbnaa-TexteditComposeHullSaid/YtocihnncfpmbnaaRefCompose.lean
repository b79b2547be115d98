/- The reference's Compose: as the program's. -/
import Derived.Test.YtocihnncfpmbnaaCompose
import Derived.Test.YtocihnncfpmbnaaRefEds
namespace Go.Proofs.Ytocihnncfpmbnaa
open Go.RowKit

theorem Comp.start {s : ByteArray} {e : Ed} {l : List Ed} (hok : e.ok s.size = true) (hs : s.size + sumIns (e :: l) ≤ 1000000) : Comp s (e :: l) 0 s ⟨e.pos, e.pos, e.pos⟩ := by
  obtain ⟨h1, h3, h4, h5⟩ := Ed.ok_iff.1 hok
  exact ⟨HInv.refl s e.pos h1 h4, rfl, rfl, hs⟩
theorem Comp.go {s : ByteArray} {l : List Ed} {k : Nat} {T : ByteArray} {h : Hl} {e : Ed} (hc : Comp s l k T h) (he : l[k]? = some e) (hok : e.ok T.size = true) : Comp s l (k + 1) (apT T e) (h.add e) := by
  obtain ⟨i, r, u, z⟩ := hc
  rw [drop_cons_ed he] at r u z
  refine ⟨i.add hok, ?_, u, ?_⟩
  · rw [r, apAll_ok hok]
  · have := apT_size T e
    simp only [sumIns, List.map_cons, List.sum_cons] at z
    simp only [sumIns]
    omega
/-- What the reference's loop holds: nothing yet before the first edit. -/
def RComp (s : ByteArray) (l : List Ed) (k : Nat) (T : ByteArray) (h : Hl) : Prop := (k = 0 ∧ T = s ∧ h = ⟨0, 0, 0⟩) ∨ (0 < k ∧ Comp s l k T h)
theorem RComp.res {s : ByteArray} {l : List Ed} {k : Nat} {T : ByteArray} {h : Hl} (hc : RComp s l k T h) (hs : s.size + sumIns l ≤ 1000000) : apAll s l = apAll T (l.drop k) ∧ T.size + sumIns (l.drop k) ≤ 1000000 := by
  rcases hc with ⟨rfl, rfl, rfl⟩ | ⟨_, hc⟩
  · exact ⟨rfl, hs⟩
  · exact ⟨hc.res, hc.size⟩
/-- The hull as the reference's loop has it. -/
theorem add_ref (f o n p d : Int) (t : ByteArray) : Hl.add ⟨f, o, n⟩ ⟨p, d, t⟩ =
    ⟨if p < f then p else f, if n < p + d then o + (p + d - n) else o, (if n < p + d then p + d else n) + t.size - d⟩ := by
  unfold Hl.add
  simp only
  by_cases c : n < p + d
  · rw [if_pos (by omega), if_pos c, if_pos c]; congr 1; omega
  · rw [if_neg (by omega), if_neg c, if_neg c]; congr 1; omega

set_option maxRecDepth 100000 in
set_option maxHeartbeats 8000000 in
theorem refCompose_any (s : ByteArray) (A : Option Addr) (n c B : Nat) (l : List Ed) (w : World) (hl : Reads w B 3 A n (eds l)) (hB : B ≤ w.heap.size) (hn : n ≤ maxLen) (hs : s.size + sumIns l ≤ 1000000) :
    Calls Try.prog 20 #[.string s, .slice A n c] w
      fun e w' => e = .returned (.tuple #[.agg #[.int .i64 (compE s l).pos, .int .i64 (compE s l).del, .string (compE s l).ins], .int .i64 (apAll s l).2]) ∧ Below w.heap.size w w' := by
  have HL := Lib.hid hl
  have HLN := Lib.hid hl.len_eds
  have HS := Lib.hid hs
  unfold maxLen at hn
  have k0 := Blk.new' w 23 #[.int .i64 0, .int .i64 0, .string ⟨#[]⟩] rfl
  have hb0 : Below w.heap.size w (w.alloc (.cells #[.int .i64 0, .int .i64 0, .string ⟨#[]⟩] 23)) := (Below.refl _ _).alloc (Nat.le_refl _) _
  clear hl hs
  by_cases hn0 : n = 0
  · subst hn0
    have hl0 : l = [] := by
      have := HLN.out
      exact List.length_eq_zero_iff.1 this
    subst hl0
    have d0 := k0.cell 0
    have d1 := k0.cell 1
    have d2 := k0.cell 2
    have f0 := k0.frozen 0
    have f1 := k0.frozen 1
    have f2 := k0.frozen 2
    simp at d0 d1 d2
    go_enter Try.func20, Try.ntmps20
    go_wp2_with fail
    exact bodyPost_ret (results_edit_int rfl rfl (k0.cell 0) (k0.cell 1) (k0.cell 2) rfl) rfl ⟨by simp [compE, apAll, ed0], hb0⟩
  have t2 : ((n : Int) == 0) = false := by rw [beq_eq_false_iff_ne]; omega
  go_enter Try.func20, Try.ntmps20
  go_wp2_with fail
  go_loopw [6, 7, 8, 9, 10] (fun a b c d e wr => ∃ (k : Nat) (T : ByteArray) (h : Hl), k ≤ n ∧ a = .int .i64 h.f ∧ b = .int .i64 h.o ∧ c = .int .i64 h.n ∧ d = .string T ∧ e = .int .i64 k ∧ Hid (RComp s l k T h) ∧
      Blk wr w.heap.size 23 #[.int .i64 0, .int .i64 0, .string ⟨#[]⟩] ∧ Below w.heap.size w wr) (fun _ _ _ _ e _ => n - (intOf e).toNat)
  case atStart => exact ⟨0, s, ⟨0, 0, 0⟩, Nat.zero_le _, rfl, rfl, rfl, rfl, rfl, Or.inl ⟨rfl, rfl, rfl⟩, k0, hb0⟩
  case round =>
    obtain ⟨k, T, h, hk, rfl, rfl, rfl, rfl, rfl, HR, B4, hb⟩ := hrel
    have hsz := hb.size
    have hszb := B4.lt
    by_cases hlt : k < n
    · obtain ⟨b, off, t, rfl, hbl, ht, h0, h1, h2⟩ := (HL.out.below (hb.mono hB)).ed_at hlt
      have hd := drop_cons_ed ht
      obtain ⟨e2, e1⟩ := HR.out.res HS.out
      rw [hd] at e1 e2
      simp only [sumIns, List.map_cons, List.sum_cons] at e1
      have e3 : T.size + t.ins.size ≤ 9223372036854775807 := by omega
      have e4 : T.size + t.ins.size ≤ 1000000 := by omega
      have HA2 := Lib.hid e2
      have HT := Lib.hid ht
      have WK : ∀ h : Hl, Hid (Hid (Ed.ok T.size t = true) → RComp s l k T h → True) := fun _ _ _ => trivial
      obtain ⟨tp, td, ti⟩ := t
      simp only at h0 h1 h2 e3 e4
      clear e1 e2 hd ht WK
      have hnW := World.size_alloc wr
      have B4' := B4.alloc (.cells #[.int .i64 tp, .int .i64 td, .string ti] 23)
      have hb' := hb.alloc hb.size (.cells #[.int .i64 tp, .int .i64 td, .string ti] 23)
      have K11 := Blk.new' wr 23 #[.int .i64 tp, .int .i64 td, .string ti] rfl
      cases hok : Ed.ok T.size ⟨tp, td, ti⟩ with
      | false =>
        have HN := Lib.hid (compE_no (s := s) (l := l) (by rw [HA2.out, apAll_no hok]; simp))
        have HF := Lib.hid (show (apAll s l).2 = 2 by rw [HA2.out, apAll_no hok])
        go_wp2_with (go_at_call 15; refine (refApply_any T tp td ti _ e3).mono ?_; rintro e w1 ⟨rfl, hb1⟩; rw [apF_no hok]; have B4a := B4'.below hb1 (by simp; omega); have f0 := B4a.frozen 0; have f1 := B4a.frozen 1; have f2 := B4a.frozen 2; have d0 := B4a.cell 0; have d1 := B4a.cell 1; have d2 := B4a.cell 2; simp at d0 d1 d2)
        have r1 := B4a.set3 (.int .i64 0) (.int .i64 0) (.string ⟨#[]⟩)
        refine bodyPost_ret (results_edit_int rfl rfl (r1.cell 0) (r1.cell 1) (r1.cell 2) rfl) rfl ⟨by rw [HN.out, HF.out]; rfl, ?_⟩
        exact (((hb'.trans (hb1.mono (by simp; omega))).setCell (by simp) _).setCell (by simp) _).setCell (by simp) _
      | true =>
        obtain ⟨j1, j2, j3, j4⟩ := Ed.ok_iff.1 hok
        simp only at j1 j2 j3 j4
        have v1 : IntKind.i64.wrap (tp + td) = tp + td := IntWalk.i64_in _ (by omega)
        rcases Nat.eq_zero_or_pos k with hk0 | hk0
        · subst hk0
          have hTs : T = s := by
            rcases HR.out with ⟨_, e, _⟩ | ⟨h, _⟩
            · exact e
            · exact absurd h (by omega)
          have HC : Hid (Comp s l (0 + 1) (apT T ⟨tp, td, ti⟩) (Hl.add ⟨tp, tp, tp⟩ ⟨tp, td, ti⟩)) := by
            have e0 := drop_cons_ed HT.out
            rw [List.drop_zero] at e0
            have hS := HS.out
            subst hTs
            refine Comp.go ?_ HT.out hok
            rw [e0] at hS ⊢
            exact Comp.start hok hS
          rw [Nat.zero_mul, Nat.add_zero] at h0 h1 h2
          clear HR HT HA2 hTs
          have a0 : decide (tp < tp) = false := by simp
          have q0 : (((0 : Nat) : Int) == 0) = true := rfl
          have v2 : IntKind.i64.wrap (tp + td - tp) = tp + td - tp := IntWalk.i64_in _ (by omega)
          have v3 : IntKind.i64.wrap (tp + (tp + td - tp)) = tp + (tp + td - tp) := IntWalk.i64_in _ (by omega)
          have v4 : IntKind.i64.wrap (tp + td + (ti.size : Int)) = tp + td + ti.size := IntWalk.i64_in _ (by omega)
          have v5 : IntKind.i64.wrap (tp + td + (ti.size : Int) - td) = tp + td + ti.size - td := IntWalk.i64_in _ (by omega)
          have v6 : IntKind.i64.wrap (tp + (ti.size : Int)) = tp + ti.size := IntWalk.i64_in _ (by omega)
          have v7 : IntKind.i64.wrap (tp + (ti.size : Int) - td) = tp + ti.size - td := IntWalk.i64_in _ (by omega)
          by_cases c2 : tp < tp + td
          · have c2' : decide (tp < tp + td) = true := by simp; omega
            rw [add_ref, if_neg (by omega), if_pos c2, if_pos c2] at HC
            go_wp2_with (go_at_call 15; refine (refApply_any T tp td ti _ e3).mono ?_; rintro e w1 ⟨rfl, hb1⟩; rw [apF_ok hok]; have B4a := B4'.below hb1 (by simp; omega); have K11a := K11.below hb1 (by simp); have g0 := K11a.cell 0; have g1 := K11a.cell 1; have g2 := K11a.cell 2; simp at g0 g1 g2)
            go_quiet (fail)
            go_wp2_with fail
            go_roundw
            case rel =>
              refine ⟨0 + 1, apT T ⟨tp, td, ti⟩, ⟨tp, tp + (tp + td - tp), tp + td + (ti.size : Int) - td⟩, by omega, rfl, rfl, rfl, rfl, by go_num, Or.inr ⟨by omega, HC.out⟩, B4a.drewN _, below_drewN (hb'.trans (hb1.mono (by simp; omega))) _⟩
            case measure => simp [intOf]; omega
          · have c2' : decide (tp < tp + td) = false := by simp; omega
            rw [add_ref, if_neg (by omega), if_neg c2, if_neg c2] at HC
            go_wp2_with (go_at_call 15; refine (refApply_any T tp td ti _ e3).mono ?_; rintro e w1 ⟨rfl, hb1⟩; rw [apF_ok hok]; have B4a := B4'.below hb1 (by simp; omega); have K11a := K11.below hb1 (by simp); have g0 := K11a.cell 0; have g1 := K11a.cell 1; have g2 := K11a.cell 2; simp at g0 g1 g2)
            go_quiet (fail)
            go_wp2_with fail
            go_roundw
            case rel =>
              refine ⟨0 + 1, apT T ⟨tp, td, ti⟩, ⟨tp, tp, tp + (ti.size : Int) - td⟩, by omega, rfl, rfl, rfl, rfl, by go_num, Or.inr ⟨by omega, HC.out⟩, B4a.drewN _, below_drewN (hb'.trans (hb1.mono (by simp; omega))) _⟩
            case measure => simp [intOf]; omega
        · have hC0 : Comp s l k T h := by
            rcases HR.out with ⟨e, _⟩ | ⟨_, h⟩
            · exact absurd e (by omega)
            · exact h
          have HC := Lib.hid (hC0.go HT.out hok)
          have hbd := hC0.bd (by have := HS.out; omega)
          obtain ⟨hf, ho, hn'⟩ := h
          obtain ⟨⟨b1, b2⟩, ⟨b3, b4⟩, ⟨b5, b6⟩⟩ := hbd
          simp only at b1 b2 b3 b4 b5 b6
          have z0 : ((k : Int) == 0) = false := by rw [beq_eq_false_iff_ne]; omega
          have v2 : IntKind.i64.wrap (tp + td - hn') = tp + td - hn' := IntWalk.i64_in _ (by omega)
          have v3 : IntKind.i64.wrap (ho + (tp + td - hn')) = ho + (tp + td - hn') := IntWalk.i64_in _ (by omega)
          have v4 : IntKind.i64.wrap (tp + td + (ti.size : Int)) = tp + td + ti.size := IntWalk.i64_in _ (by omega)
          have v5 : IntKind.i64.wrap (tp + td + (ti.size : Int) - td) = tp + td + ti.size - td := IntWalk.i64_in _ (by omega)
          have v6 : IntKind.i64.wrap (hn' + (ti.size : Int)) = hn' + ti.size := IntWalk.i64_in _ (by omega)
          have v7 : IntKind.i64.wrap (hn' + (ti.size : Int) - td) = hn' + ti.size - td := IntWalk.i64_in _ (by omega)
          clear HR HT HA2 hC0
          by_cases c1 : tp < hf
          · have c1' : decide (tp < hf) = true := by simp; omega
            by_cases c2 : hn' < tp + td
            · have c2' : decide (hn' < tp + td) = true := by simp; omega
              rw [add_ref, if_pos c1, if_pos c2, if_pos c2] at HC
              go_wp2_with (go_at_call 15; refine (refApply_any T tp td ti _ e3).mono ?_; rintro e w1 ⟨rfl, hb1⟩; rw [apF_ok hok]; have B4a := B4'.below hb1 (by simp; omega); have K11a := K11.below hb1 (by simp); have g0 := K11a.cell 0; have g1 := K11a.cell 1; have g2 := K11a.cell 2; simp at g0 g1 g2)
              go_roundw
              case rel =>
                refine ⟨k + 1, apT T ⟨tp, td, ti⟩, ⟨tp, ho + (tp + td - hn'), tp + td + (ti.size : Int) - td⟩, by omega, rfl, rfl, rfl, rfl, by go_num, Or.inr ⟨by omega, HC.out⟩, B4a, hb'.trans (hb1.mono (by simp; omega))⟩
              case measure => simp [intOf]; omega
            · have c2' : decide (hn' < tp + td) = false := by simp; omega
              rw [add_ref, if_pos c1, if_neg c2, if_neg c2] at HC
              go_wp2_with (go_at_call 15; refine (refApply_any T tp td ti _ e3).mono ?_; rintro e w1 ⟨rfl, hb1⟩; rw [apF_ok hok]; have B4a := B4'.below hb1 (by simp; omega); have K11a := K11.below hb1 (by simp); have g0 := K11a.cell 0; have g1 := K11a.cell 1; have g2 := K11a.cell 2; simp at g0 g1 g2)
              go_roundw
              case rel =>
                refine ⟨k + 1, apT T ⟨tp, td, ti⟩, ⟨tp, ho, hn' + (ti.size : Int) - td⟩, by omega, rfl, rfl, rfl, rfl, by go_num, Or.inr ⟨by omega, HC.out⟩, B4a, hb'.trans (hb1.mono (by simp; omega))⟩
              case measure => simp [intOf]; omega
          · have c1' : decide (tp < hf) = false := by simp; omega
            by_cases c2 : hn' < tp + td
            · have c2' : decide (hn' < tp + td) = true := by simp; omega
              rw [add_ref, if_neg c1, if_pos c2, if_pos c2] at HC
              go_wp2_with (go_at_call 15; refine (refApply_any T tp td ti _ e3).mono ?_; rintro e w1 ⟨rfl, hb1⟩; rw [apF_ok hok]; have B4a := B4'.below hb1 (by simp; omega); have K11a := K11.below hb1 (by simp); have g0 := K11a.cell 0; have g1 := K11a.cell 1; have g2 := K11a.cell 2; simp at g0 g1 g2)
              go_roundw
              case rel =>
                refine ⟨k + 1, apT T ⟨tp, td, ti⟩, ⟨hf, ho + (tp + td - hn'), tp + td + (ti.size : Int) - td⟩, by omega, rfl, rfl, rfl, rfl, by go_num, Or.inr ⟨by omega, HC.out⟩, B4a, hb'.trans (hb1.mono (by simp; omega))⟩
              case measure => simp [intOf]; omega
            · have c2' : decide (hn' < tp + td) = false := by simp; omega
              rw [add_ref, if_neg c1, if_neg c2, if_neg c2] at HC
              go_wp2_with (go_at_call 15; refine (refApply_any T tp td ti _ e3).mono ?_; rintro e w1 ⟨rfl, hb1⟩; rw [apF_ok hok]; have B4a := B4'.below hb1 (by simp; omega); have K11a := K11.below hb1 (by simp); have g0 := K11a.cell 0; have g1 := K11a.cell 1; have g2 := K11a.cell 2; simp at g0 g1 g2)
              go_roundw
              case rel =>
                refine ⟨k + 1, apT T ⟨tp, td, ti⟩, ⟨hf, ho, hn' + (ti.size : Int) - td⟩, by omega, rfl, rfl, rfl, rfl, by go_num, Or.inr ⟨by omega, HC.out⟩, B4a, hb'.trans (hb1.mono (by simp; omega))⟩
              case measure => simp [intOf]; omega
    · have hk1 : k = n := by omega
      subst hk1
      have hC0 : Comp s l k T h := by
        rcases HR.out with ⟨e, _⟩ | ⟨_, h⟩
        · exact absurd e (by omega)
        · exact h
      have hd : l.drop k = [] := List.drop_eq_nil_of_le (by have := HLN.out; omega)
      obtain ⟨hi, e2, e1, hz⟩ := hC0
      rw [hd] at e1 e2
      have hE : compE s l = ⟨h.f, h.o - h.f, T.extract h.f.toNat h.n.toNat⟩ := by
        unfold compE
        rw [if_pos ⟨by rw [e2]; rfl, by rintro rfl; have := HLN.out; simp at this; omega⟩, ← e1, e2]
        rfl
      have HCE := Lib.hid hE
      have HR0 := Lib.hid (show (apAll s l).2 = 0 by rw [e2]; rfl)
      have hTz : T.size ≤ 1000000 := by omega
      obtain ⟨f0, hfn, hnT, hfo, hos, _, _, _⟩ := hi
      have hS := HS.out
      obtain ⟨hf, ho, hnn⟩ := h
      simp only at f0 hfn hnT hfo hos HCE
      obtain ⟨fN, rfl⟩ := Int.eq_ofNat_of_zero_le f0
      obtain ⟨nN, rfl⟩ := Int.eq_ofNat_of_zero_le (Int.le_trans f0 hfn)
      rw [Int.toNat_natCast, Int.toNat_natCast] at HCE
      have w1' : IntKind.i64.wrap (ho - (fN : Int)) = ho - fN := IntWalk.i64_in _ (by omega)
      have x0 := B4.cell 0
      have x1 := B4.cell 1
      have x2 := B4.cell 2
      have y0 := B4.frozen 0
      have y1 := B4.frozen 1
      have y2 := B4.frozen 2
      simp at x0 x1 x2
      have w3' : fN ≤ nN := by omega
      have w4' : nN ≤ T.size := by omega
      clear e1 e2 hE hd HR
      go_wp2_with fail
      have r1 := B4.set3 (.int .i64 fN) (.int .i64 (ho - fN)) (.string (T.extract fN nN))
      refine bodyPost_ret (results_edit_int rfl rfl (r1.cell 0) (r1.cell 1) (r1.cell 2) rfl) rfl ⟨by rw [HCE.out, HR0.out]; rfl, ?_⟩
      exact ((hb.setCell (by simp) _).setCell (by simp) _).setCell (by simp) _
end Go.Proofs.Ytocihnncfpmbnaa
