/- The law OutsideCheaperEdge. -/
import Derived.Test.YtbalhkbpmahkgaaOMh
import Derived.Test.YtbalhkbpmahkgaaOMc
import Derived.StillTailTactics
import Derived.Deep.DeepCutAuto
import Derived.Test.YtbalhkbpmahkgaaOMd
namespace Go.Proofs.Ytbalhkbpmahkgaa
open Go.RowKit

/-- One hyperedge is cheaper. -/
theorem wc_cheaper {es : List Ed} {k : Nat} {e : Ed} {q : Int} {N : Nat} (hes : ∀ e ∈ es, e.Ok N) (he : es[k]? = some e) (h0 : 0 ≤ q) (hq : q ≤ e.cost) : ∀ x ∈ es, ∃ x' ∈ es.set k (e.wc q), x'.hd = x.hd ∧ x'.ts = x.ts ∧ 0 ≤ x'.cost ∧ x'.cost ≤ x.cost := fun x hx => by
  obtain ⟨j, hj⟩ := List.getElem?_of_mem hx
  have hk := (List.getElem?_eq_some_iff.1 he).1
  by_cases hjk : k = j
  · subst hjk
    rw [he] at hj
    injection hj with hj
    subst hj
    exact ⟨e.wc q, List.mem_of_getElem? (i := k) (by rw [List.getElem?_set, if_pos rfl, if_pos hk]), rfl, rfl, h0, hq⟩
  · exact ⟨x, List.mem_of_getElem? (i := j) (by rw [List.getElem?_set, if_neg hjk]; exact hj), rfl, rfl, (hes x hx).cost.1, Int.le_refl _⟩
set_option maxRecDepth 100000 in
set_option maxHeartbeats 8000000 in
theorem lawChp_any (Z : Int) (ce B : Nat) (E : Option Addr) (es : List Ed) (root : Int) (w : World) (hE : HG w B E es.length es) (hB : B ≤ w.heap.size) (x : Int) (hx : 0 ≤ x ∧ x ≤ 65535) : Calls Try.prog 9 #[.agg #[.int .i64 Z, .slice E es.length ce], .int .i64 root, .int .u16 x] w fun e w' => e = .returned (.bool true) ∧ Below w.heap.size w w' := by
  have HE := Lib.hid (hE.more hB)
  obtain ⟨xk, rfl⟩ := Int.eq_ofNat_of_zero_le hx.1
  have hk255 : xk ≤ 65535 := by omega
  clear hx
  clear hE
  obtain ⟨M, hMM⟩ : ∃ M, es.length = M := ⟨_, rfl⟩
  rw [hMM] at HE ⊢
  have HMM := Lib.hid hMM
  clear hMM
  go_enter Try.func9, Try.ntmps9
  go_wp2_with fail
  obtain ⟨w0, hw0⟩ : ∃ w0, w.alloc (.cells #[.int .i64 Z, .slice E M ce] 24) = w0 := ⟨_, rfl⟩
  rw [hw0]
  obtain ⟨bh, hbh⟩ : ∃ bh, w.heap.size = bh := ⟨_, rfl⟩
  have HKH0 : Hid (Blk w0 bh 24 #[.int .i64 Z, .slice E M ce]) := by rw [← hw0]; exact Blk.new' w _ _ hbh
  have HB0 : Hid (Below w.heap.size w w0) := by rw [← hw0]; exact (Below.refl _ _).alloc (Nat.le_refl _) _
  try rw [hbh]
  have HBH := Lib.hid hbh
  clear hw0 hbh
  refine (awake_any w0).mono ?_
  rintro e w1 ⟨rfl, hb1⟩
  have HKH1 := Lib.hid (HKH0.out.below hb1 HKH0.out.lt)
  have HB1 : Hid (Below w.heap.size w w1) := HB0.out.trans (hb1.mono HB0.out.size)
  clear hb1 HKH0 HB0
  have c0 : w1.cell? ⟨bh, 0, none⟩ = some (.int .i64 Z) := HKH1.out.cell 0
  have c1 : w1.cell? ⟨bh, 1, none⟩ = some (.slice E M ce) := HKH1.out.cell 1
  go_wp2_with fail
  have hs := small33_any w1 Z ce w.heap.size E es (by rw [HMM.out]; exact HE.out.below HB1.out) HB1.out.size
  rw [HMM.out] at hs
  refine hs.mono ?_
  rintro e w2 ⟨b, rfl, hb, hbw⟩
  have HBB := Lib.hid hb
  have HKH2 := Lib.hid (HKH1.out.below hbw HKH1.out.lt)
  have HB2 : Hid (Below w.heap.size w w2) := HB1.out.trans (hbw.mono HB1.out.size)
  clear hs hb hbw HKH1 HB1 c0 c1
  cases b with
  | false =>
    go_wp2_with fail
    go_ret
    exact ⟨rfl, HB2.out⟩
  | true =>
  obtain ⟨N, hZ, hN1, hN2, hM, hok, V0, hsol0, hsz0⟩ := HBB.out rfl
  rw [HMM.out] at hM
  subst hZ
  have HOK := Lib.hid hok
  have HS0 := Lib.hid (And.intro hsol0 hsz0)
  have c0 : w2.cell? ⟨bh, 0, none⟩ = some (.int .i64 N) := HKH2.out.cell 0
  have c1 : w2.cell? ⟨bh, 1, none⟩ = some (.slice E M ce) := HKH2.out.cell 1
  clear hok HBB hsol0 hsz0
  have H9 : Hid (∀ w9, Below w2.heap.size w2 w9 → w9.cell? ⟨bh, 0, none⟩ = some (.int .i64 N) ∧ w9.cell? ⟨bh, 1, none⟩ = some (.slice E M ce) ∧ Below w2.heap.size w2 w9) := fun w9 h => by
    have K := HKH2.out.below h HKH2.out.lt
    exact ⟨K.cell 0, K.cell 1, h⟩
  obtain ⟨i0, hi0, hz0, hz1, hz2⟩ := info_parts infoHe
  by_cases hM0 : M = 0
  case pos =>
    have hz : ((M : Int) == 0) = true := by rw [hM0]; rfl
    have hz' : decide (M = 0) = true := by simp [hM0]
    clear hM0
    go_wp2_with fail
    go_ret
    exact ⟨rfl, HB2.out⟩
  case neg =>
  have hz : ((M : Int) == 0) = false := by rw [beq_eq_false_iff_ne]; omega
  have hz' : decide (M = 0) = false := by simp [hM0]
  obtain ⟨k, hk⟩ : ∃ k, xk % M = k := ⟨_, rfl⟩
  have hkM : k < M := by have := Nat.mod_lt xk (show 0 < M by omega); omega
  have HKM := Lib.hid hk
  have v1 : IntKind.i64.wrap (xk : Int) = (xk : Int) := IntWalk.i64_in _ (by omega)
  have v2 : (xk : Int).tmod (M : Int) = (k : Int) := by rw [← HKM.out]; rfl
  have v3 : xk % M = k := HKM.out
  have v5 : IntKind.i64.wrap (k : Int) = (k : Int) := IntWalk.i64_in _ (by omega)
  have v8 : (xk : Int) % (M : Int) = (k : Int) := by rw [← v3]; exact (Int.natCast_emod xk M).symm
  have hM0' : ¬ M = 0 := hM0
  clear hk
  go_upto_region 6 with fail
  clear v1 v2 v3 v5 v8 hz hz' hM0' c0 c1
  have HRE := Lib.hid ((HE.out.below HB2.out).1.more HB2.out.size)
  have HEO : Hid (∀ u ∈ eds es, u.oneCell' = true) := fun u hu => eds_one hu
  have B8 : Below w2.heap.size w2 w2.drew := (Below.refl _ _).drew
  have BB : Below w2.heap.size w2 ((w2.alloc (.cells #[.int .i64 0, .slice none 0 0] 24)).drew) := ((Below.refl _ w2).alloc (Nat.le_refl _) _).drew
  have B1 : Below w2.heap.size w2 ((w2.alloc (.cells #[] 48)).drew) := ((Below.refl _ w2).alloc (Nat.le_refl _) _).drew
  have B2 : Below w2.heap.size w2 (((w2.alloc (.cells #[] 48)).alloc (.cells #[.int .i64 0, .slice none 0 0] 24)).drew) := (((Below.refl _ w2).alloc (Nat.le_refl _) _).alloc (by simp) _).drew
  have B3 : Below w2.heap.size w2 (((w2.alloc (.cells #[.int .i64 0, .slice none 0 0] 24)).alloc (.cells #[] 48)).drew) := (((Below.refl _ w2).alloc (Nat.le_refl _) _).alloc (by simp) _).drew
  have HO1 : Hid (((w2.alloc (.cells #[] 48)).drew).ownsRow w2.heap.size 48 5 (.slice (some ⟨w2.heap.size, 0, none⟩) 0 0) 0 []) := ⟨rfl, .inr ⟨w2.heap.size, 0, #[], rfl, Nat.le_refl _, Blk.new w2 _ _, Nat.le_refl _, by unfold maxLen; omega, rfl, rfl⟩⟩
  have HO2 : Hid ((((w2.alloc (.cells #[] 48)).alloc (.cells #[.int .i64 0, .slice none 0 0] 24)).drew).ownsRow w2.heap.size 48 5 (.slice (some ⟨w2.heap.size, 0, none⟩) 0 0) 0 []) := ⟨rfl, .inr ⟨w2.heap.size, 0, #[], rfl, Nat.le_refl _, (Blk.new w2 _ _).alloc _, Nat.le_refl _, by unfold maxLen; omega, rfl, rfl⟩⟩
  have HO3 : Hid ((((w2.alloc (.cells #[.int .i64 0, .slice none 0 0] 24)).alloc (.cells #[] 48)).drew).ownsRow w2.heap.size 48 5 (.slice (some ⟨w2.heap.size + 1, 0, none⟩) 0 0) 0 []) := ⟨rfl, .inr ⟨w2.heap.size + 1, 0, #[], rfl, by omega, Blk.new' _ _ _ (by simp), Nat.le_refl _, by unfold maxLen; omega, rfl, rfl⟩⟩
  have HR1 := Lib.hid (HRE.out.below B1)
  have HR2 := Lib.hid (HRE.out.below B2)
  have HR3 := Lib.hid (HRE.out.below B3)
  have Z2 : Blk (((w2.alloc (.cells #[] 48)).alloc (.cells #[.int .i64 0, .slice none 0 0] 24)).drew) (w2.heap.size + 1) 24 #[.int .i64 0, .slice none 0 0] := Blk.new' _ _ _ (by simp)
  have Z3 : Blk (((w2.alloc (.cells #[.int .i64 0, .slice none 0 0] 24)).alloc (.cells #[] 48)).drew) w2.heap.size 24 #[.int .i64 0, .slice none 0 0] := (Blk.new' w2 _ _ rfl).alloc _
  go_cut [8] (fun x8 wx => ∃ (g8 : Nat) (A9 : Option Addr) (c9 : Nat), x8 = .pointer (some ⟨g8, 0, none⟩) ∧ Blk wx g8 24 #[.int .i64 N, .slice A9 M c9] ∧ wx.ownsRow w2.heap.size 48 5 (.slice A9 M c9) M (eds es) ∧ w2.heap.size ≤ g8 ∧ Below w2.heap.size w2 wx)
  case first =>
    go_region_held3 (fun w9 => w9.cell? ⟨bh, 0, none⟩ = some (.int .i64 N) ∧ w9.cell? ⟨bh, 1, none⟩ = some (.slice E M ce) ∧ Below w2.heap.size w2 w9)
      (first | exact H9.out _ B8 | exact H9.out _ BB | exact H9.out _ B1 | exact H9.out _ B2 | exact H9.out _ B3 | exact H9.out _ X9 | exact H9.out _ (X9.alloc hz9 _) | exact H9.out _ ((X9.setCell (by simp) _).setCell (by simp) _) | exact H9.out _ ((X9.setCell (Nat.le_succ _) _).setCell (Nat.le_succ _) _) | exact H9.out _ ((X9.setCell (Nat.le_refl _) _).setCell (Nat.le_refl _) _))
      (first
        | (refine step_append_any _ (by rfl) _ _ 22 (by rfl) w2.heap.size 48 i0 (.agg #[.int .i64 0, .slice none 0 0, .int .i64 0, .int .i64 0, .int .i64 0]) 5 56 Try.underlying22 hi0 hz0 hz1 hz2 rfl (by decide) (.slice (some ⟨w2.heap.size, 0, none⟩) 0 0) 0 [] (by rfl) HO1.out w2.heap.size E M ce (eds es) (by rfl) HR1.out HEO.out (by unfold maxLen; omega) (by omega) B1.size ?_; intro v9 w9 hown9 hgrow hat; obtain ⟨A9, c9, rfl, hc9, _⟩ := own_form hown9; simp only [Nat.zero_add, List.nil_append] at hown9 hat; simp only [Nat.zero_add]; have HOW9 := Lib.hid hown9; have X9 : Below w2.heap.size w2 w9 := B1.grown hgrow B1.size (fun z hz => own_ge HO1.out hz); have hz9 := X9.size; clear hown9 hgrow hat hc9)
        | (refine step_append_any _ (by rfl) _ _ 22 (by rfl) w2.heap.size 48 i0 (.agg #[.int .i64 0, .slice none 0 0, .int .i64 0, .int .i64 0, .int .i64 0]) 5 56 Try.underlying22 hi0 hz0 hz1 hz2 rfl (by decide) (.slice (some ⟨w2.heap.size, 0, none⟩) 0 0) 0 [] (by rfl) HO2.out w2.heap.size E M ce (eds es) (by rfl) HR2.out HEO.out (by unfold maxLen; omega) (by omega) B2.size ?_; intro v9 w9 hown9 hgrow hat; obtain ⟨A9, c9, rfl, hc9, _⟩ := own_form hown9; simp only [Nat.zero_add, List.nil_append] at hown9 hat; simp only [Nat.zero_add]; have HOW9 := Lib.hid hown9; have X9 : Below w2.heap.size w2 w9 := B2.grown hgrow B2.size (fun z hz => own_ge HO2.out hz); have hz9 := X9.size; have ZB := Z2.grown hgrow (fun h => own_blk_ne HO2.out Z2 (by decide) h.symm); have zb0 := ZB.cell 0; have zb1 := ZB.cell 1; have zf0 := ZB.frozen 0; have zf1 := ZB.frozen 1; simp at zb0 zb1; clear hown9 hgrow hat hc9)
        | (refine step_append_any _ (by rfl) _ _ 22 (by rfl) w2.heap.size 48 i0 (.agg #[.int .i64 0, .slice none 0 0, .int .i64 0, .int .i64 0, .int .i64 0]) 5 56 Try.underlying22 hi0 hz0 hz1 hz2 rfl (by decide) (.slice (some ⟨w2.heap.size + 1, 0, none⟩) 0 0) 0 [] (by rfl) HO3.out w2.heap.size E M ce (eds es) (by rfl) HR3.out HEO.out (by unfold maxLen; omega) (by omega) B3.size ?_; intro v9 w9 hown9 hgrow hat; obtain ⟨A9, c9, rfl, hc9, _⟩ := own_form hown9; simp only [Nat.zero_add, List.nil_append] at hown9 hat; simp only [Nat.zero_add]; have HOW9 := Lib.hid hown9; have X9 : Below w2.heap.size w2 w9 := B3.grown hgrow B3.size (fun z hz => own_ge HO3.out hz); have hz9 := X9.size; have ZB := Z3.grown hgrow (fun h => own_blk_ne HO3.out Z3 (by decide) h.symm); have zb0 := ZB.cell 0; have zb1 := ZB.cell 1; have zf0 := ZB.frozen 0; have zf1 := ZB.frozen 1; simp at zb0 zb1; clear hown9 hgrow hat hc9))
    all_goals
      go_wp2_with fail
      go_meet
      first
        | exact ⟨_, A9, c9, rfl, Blk.new' w9 _ _ rfl, HOW9.out.alloc _, hz9, X9.alloc hz9 _⟩
        | (refine ⟨_, A9, c9, rfl, ?_, ?_, ?_, ?_⟩
           rotate_left 2
           · first | exact Nat.le_refl _ | exact Nat.le_succ _
           · first | exact (X9.setCell (Nat.le_refl _) _).setCell (Nat.le_refl _) _ | exact (X9.setCell (Nat.le_succ _) _).setCell (Nat.le_succ _) _
           · have := (ZB.set_ 0 (.int .i64 N)).set_ 1 (.slice A9 M c9)
             simpa using this
           · have hne := own_blk_ne HOW9.out ZB (by decide)
             exact own_touch (own_touch HOW9.out (F := fun z => some z ≠ (Value.slice A9 M c9).ownBlock) ((Touch.refl _ w9).setCell (.inl (fun e => hne e.symm)) _) (fun z hz e => e hz.symm)) (F := fun z => some z ≠ (Value.slice A9 M c9).ownBlock) ((Touch.refl _ _).setCell (.inl (fun e => hne e.symm)) _) (fun z hz e => e hz.symm))
  case rest =>
    obtain ⟨g8, A9, c9, rfl, K8, O9, hg8, X4⟩ := hcut
    rename World => w4
    obtain ⟨gr, cur, hA9, hgr, hMc, hgrb⟩ := own_form' O9 (by omega)
    subst hA9
    have HK8 := Lib.hid K8
    have HO9 := Lib.hid O9
    have HKH4 := Lib.hid (HKH2.out.below X4 HKH2.out.lt)
    have HB4 : Hid (Below w.heap.size w w4) := HB2.out.trans (X4.mono HB2.out.size)
    have HGG : Hid (bh < g8 ∧ bh < gr ∧ g8 ≠ gr ∧ w.heap.size ≤ g8 ∧ w.heap.size ≤ gr) := by
      have h1 := HKH2.out.lt
      have h2 := HB2.out.size
      exact ⟨by omega, by omega, Blk.ne_ K8 hgr (by decide), by omega, by omega⟩
    obtain ⟨e, he⟩ : ∃ e, es[k]? = some e := ⟨_, List.getElem?_eq_getElem (by have := HMM.out; omega)⟩
    have HEk := Lib.hid he
    have heok := HOK.out e (List.mem_of_getElem? he)
    have hc0 := heok.cost.1
    have hc1 := heok.cost.2
    have hrow : w4.cell? ⟨gr, k * 5 + 2, none⟩ = some (.int .i64 e.cost) := by
      obtain ⟨bb, oo, h1, _, h2⟩ := (Reads.of_own O9).2 (by omega)
      injection h1 with h1
      injection h1 with e1 e2 _
      subst e1 e2
      have := h2 (k * 5 + 2) (.int .i64 e.cost) (by rw [eds_at es k _ 2 he (by omega)]; rfl)
      simpa using this
    have hrz : w4.frozen? ⟨gr, k * 5 + 2, none⟩ = false := Blk.frozen (t := 48) (cs := cur) hgr _
    have k81 : w4.cell? ⟨g8, 1, none⟩ = some (.slice (some ⟨gr, 0, none⟩) M c9) := K8.cell 1
    obtain ⟨q, hq⟩ : ∃ q, e.cost.tdiv 2 = q := ⟨_, rfl⟩
    have hq2 : e.cost.tdiv 2 = e.cost / 2 := Int.tdiv_eq_ediv_of_nonneg hc0
    have HQL : Hid (0 ≤ q ∧ q ≤ e.cost) := by rw [← hq, hq2]; exact ⟨by omega, by omega⟩
    have u2 : IntKind.i64.wrap q = q := IntWalk.i64_in _ (by have := HQL.out; omega)
    have u3 : e.cost / 2 = q := by rw [← hq2]; exact hq
    clear hq2 he heok X4 K8 O9 hg8 hgr H9 HKH2 HB2 HRE HEO B8 BB B1 B2 B3 HO1 HO2 HO3 HR1 HR2 HR3 Z2 Z3
    go_upto_region 7 with fail
    go_region
    try rw [hq]
    try rw [u2]
    obtain ⟨w5, hw5⟩ : ∃ w5, World.drew (w4.setCell ⟨gr, k * 5 + 2, none⟩ (.int .i64 q)) = w5 := ⟨_, rfl⟩
    have HK85 : Hid (Blk w5 g8 24 #[.int .i64 N, .slice (some ⟨gr, 0, none⟩) M c9]) := by rw [← hw5]; exact (HK8.out.far (p := ⟨gr, k * 5 + 2, none⟩) (by have := HGG.out; show g8 ≠ gr; omega) _).drew1
    have HKH5 : Hid (Blk w5 bh 24 #[.int .i64 N, .slice E M ce]) := by rw [← hw5]; exact (HKH4.out.far (p := ⟨gr, k * 5 + 2, none⟩) (by have := HGG.out; show bh ≠ gr; omega) _).drew1
    have HB5 : Hid (Below w.heap.size w w5) := by rw [← hw5]; exact below_drew1 (HB4.out.setCell (p := ⟨gr, k * 5 + 2, none⟩) HGG.out.2.2.2.2 _)
    obtain ⟨esU, hU⟩ : ∃ esU, es.set k (e.wc q) = esU := ⟨_, rfl⟩
    have hlU : esU.length = M := by rw [← hU, List.length_set, HMM.out]
    have HOb : Hid (w5.ownsRow w2.heap.size 48 5 (.slice (some ⟨gr, 0, none⟩) M c9) M (eds esU)) := by
      rw [← hw5, ← hU, ← eds_wc es k e q HEk.out]
      exact own_below (own_setCell HO9.out (k * 5 + 2) (.int .i64 q) (by omega)) (below_drew1 (Below.refl _ _))
    have HGU : Hid (HG w5 w5.heap.size (some ⟨gr, 0, none⟩) M esU) := by
      have h1 := HOb.out
      rw [← hlU] at h1 ⊢
      refine HG.of_own' h1 HB5.out.size (fun x hx => ?_)
      rw [← hU] at hx
      rcases up_mem HEk.out hx with h | h
      · subst h
        exact (HE.out.below HB5.out).2 e (List.mem_of_getElem? HEk.out)
      · exact (HE.out.below HB5.out).2 x h
    have HCH : Hid (∀ x ∈ es, ∃ x' ∈ esU, x'.hd = x.hd ∧ x'.ts = x.ts ∧ 0 ≤ x'.cost ∧ x'.cost ≤ x.cost) := by rw [← hU]; exact wc_cheaper HOK.out HEk.out HQL.out.1 HQL.out.2
    have HLU := Lib.hid hlU
    try rw [hw5]
    clear hw5 hrow hrz k81 hq u2 u3 hU hlU HOb HO9 HK8 HKH4 HB4 hMc hgrb cur
    have k80 : w5.cell? ⟨g8, 0, none⟩ = some (.int .i64 N) := HK85.out.cell 0
    have k81 : w5.cell? ⟨g8, 1, none⟩ = some (.slice (some ⟨gr, 0, none⟩) M c9) := HK85.out.cell 1
    go_wp2_with fail
    have hs := small33_any w5 N c9 w5.heap.size (some ⟨gr, 0, none⟩) esU (by rw [HLU.out]; exact HGU.out) (Nat.le_refl _)
    rw [HLU.out] at hs
    refine hs.mono ?_
    rintro e6 w6 ⟨b, rfl, hb, hbw⟩
    have HBB := Lib.hid hb
    have HKH6 := Lib.hid (HKH5.out.below hbw HKH5.out.lt)
    have HK86 := Lib.hid (HK85.out.below hbw HK85.out.lt)
    have HGU6 : Hid (HG w6 w5.heap.size (some ⟨gr, 0, none⟩) M esU) := HGU.out.below hbw
    have HB6 : Hid (Below w.heap.size w w6) := HB5.out.trans (hbw.mono HB5.out.size)
    have HZ6 : Hid (w5.heap.size ≤ w6.heap.size) := hbw.size
    clear hs hb hbw k80 k81 HKH5 HK85 HGU HB5
    cases b with
    | false =>
      go_wp2_with fail
      go_ret
      exact ⟨rfl, HB6.out⟩
    | true =>
    obtain ⟨N', hN', _, _, _, hokU, _, _, _⟩ := HBB.out rfl
    obtain rfl : N = N' := by omega
    have HOKU := Lib.hid hokU
    clear HBB hN' hokU
    have H9 : Hid (∀ w9, Below w6.heap.size w6 w9 → w9.cell? ⟨bh, 0, none⟩ = some (.int .i64 N) ∧ w9.cell? ⟨bh, 1, none⟩ = some (.slice E M ce) ∧ w9.cell? ⟨g8, 0, none⟩ = some (.int .i64 N) ∧ w9.cell? ⟨g8, 1, none⟩ = some (.slice (some ⟨gr, 0, none⟩) M c9) ∧ Below w6.heap.size w6 w9) := fun w9 h => by
      have K := HKH6.out.below h HKH6.out.lt
      have K2 := HK86.out.below h HK86.out.lt
      exact ⟨K.cell 0, K.cell 1, K2.cell 0, K2.cell 1, h⟩
    have HCH1 : Hid (∀ w9, Below w6.heap.size w6 w9 → Calls Try.prog 13 #[.agg #[.int .i64 N, .slice E M ce], .int .i64 root] w9 (RetL N (IsOut es root N) w9)) := fun w9 h9 => by
      have hb9 : Below w.heap.size w w9 := HB6.out.trans (h9.mono HB6.out.size)
      have h := poutside_any w9 N ce w.heap.size E es root (by rw [HMM.out]; exact HE.out.below hb9) hb9.size HOK.out hN2 hN1 (by rw [HMM.out]; exact hM)
      rw [HMM.out] at h
      exact h
    have HCH2 : Hid (∀ w9, Below w6.heap.size w6 w9 → Calls Try.prog 13 #[.agg #[.int .i64 N, .slice (some ⟨gr, 0, none⟩) M c9], .int .i64 root] w9 (RetL N (IsOut esU root N) w9)) := fun w9 h9 => by
      have h := poutside_any w9 N c9 w5.heap.size (some ⟨gr, 0, none⟩) esU root (by rw [HLU.out]; exact HGU6.out.below (h9.mono HZ6.out)) (Nat.le_trans HZ6.out h9.size) HOKU.out hN2 hN1 (by rw [HLU.out]; exact hM)
      rw [HLU.out] at h
      exact h
    have B8 : Below w6.heap.size w6 w6.drew := (Below.refl _ _).drew
    go_upto_region 10 with fail
    go_cut [9, 10] (fun x5 x6 wx => ∃ (g3 g4 : Nat) (l3 l4 : List Int), x5 = .slice (some ⟨g3, 0, none⟩) N N ∧ x6 = .slice (some ⟨g4, 0, none⟩) N N ∧ l3.length = N ∧ l4.length = N ∧ Blk wx g3 3 (ints l3).toArray ∧ Blk wx g4 3 (ints l4).toArray ∧ IsOut es root N l3 ∧ IsOut esU root N l4 ∧ Below w6.heap.size w6 wx)
    case first =>
      go_region_held3 (fun w9 => w9.cell? ⟨bh, 0, none⟩ = some (.int .i64 N) ∧ w9.cell? ⟨bh, 1, none⟩ = some (.slice E M ce) ∧ w9.cell? ⟨g8, 0, none⟩ = some (.int .i64 N) ∧ w9.cell? ⟨g8, 1, none⟩ = some (.slice (some ⟨gr, 0, none⟩) M c9) ∧ Below w6.heap.size w6 w9)
        (first | exact H9.out _ B8 | exact H9.out _ X4 | exact H9.out _ X3)
        (first
          | (go_at_call 13; (with_reducible refine (HCH1.out _ B8).mono ?_); rintro e w3 ⟨g3, l3, rfl, hl3, kk, ho3, hg, hb⟩; have X3 : Below w6.heap.size w6 w3 := B8.trans (hb.mono B8.size); have K33 := Lib.hid kk; have L3 := Lib.hid (And.intro hl3 ho3); clear hl3 kk ho3 hg hb)
          | (go_at_call 13; (with_reducible refine (HCH2.out _ X3).mono ?_); rintro e w4 ⟨g4, l4, rfl, hl4, kk, ho4, hg, hb⟩; have X4 : Below w6.heap.size w6 w4 := X3.trans (hb.mono X3.size); have K44 := Lib.hid kk; have L4 := Lib.hid (And.intro hl4 ho4); have K34 := Lib.hid (K33.out.below hb K33.out.lt); clear hl4 kk ho4 hg hb))
      all_goals
        go_wp2_with fail
        go_meet
        exact ⟨g3, g4, l3, l4, rfl, rfl, L3.out.1, L4.out.1, K34.out, K44.out, L3.out.2, L4.out.2, X4⟩
    case rest =>
    obtain ⟨ga, gb, la, lb, rfl, rfl, hl3, hl4, K3, K4, ho3, ho4, X4⟩ := hcut
    rename World => w7
    have HLa := Lib.hid (And.intro hl3 (And.intro K3 ho3))
    have HLb := Lib.hid (And.intro hl4 (And.intro K4 ho4))
    have HKH7 := Lib.hid (HKH6.out.below X4 HKH6.out.lt)
    have HK87 := Lib.hid (HK86.out.below X4 HK86.out.lt)
    have HGU7 := Lib.hid (HGU6.out.below (X4.mono HZ6.out))
    have HB7 : Hid (Below w.heap.size w w7) := HB6.out.trans (X4.mono HB6.out.size)
    have HZ7 : Hid (w5.heap.size ≤ w7.heap.size) := Nat.le_trans HZ6.out X4.size
    clear hl3 hl4 K3 K4 ho3 ho4 B8 H9 HKH6 HK86 HGU6 HB6 HZ6 HCH1 HCH2 X4
    have H9 : Hid (∀ w9, Below w7.heap.size w7 w9 → w9.cell? ⟨bh, 0, none⟩ = some (.int .i64 N) ∧ w9.cell? ⟨bh, 1, none⟩ = some (.slice E M ce) ∧ w9.cell? ⟨g8, 0, none⟩ = some (.int .i64 N) ∧ w9.cell? ⟨g8, 1, none⟩ = some (.slice (some ⟨gr, 0, none⟩) M c9) ∧ Below w7.heap.size w7 w9) := fun w9 h => by
      have K := HKH7.out.below h HKH7.out.lt
      have K2 := HK87.out.below h HK87.out.lt
      exact ⟨K.cell 0, K.cell 1, K2.cell 0, K2.cell 1, h⟩
    have HCH1 : Hid (∀ w9, Below w7.heap.size w7 w9 → Calls Try.prog 15 #[.agg #[.int .i64 N, .slice E M ce], .int .i64 root] w9 (RetL N (IsThr es root N) w9)) := fun w9 h9 => by
      have hb9 : Below w.heap.size w w9 := HB7.out.trans (h9.mono HB7.out.size)
      have h := pthrough_any w9 N ce w.heap.size E es root (by rw [HMM.out]; exact HE.out.below hb9) hb9.size HOK.out hN2 hN1 (by rw [HMM.out]; exact hM)
      rw [HMM.out] at h
      exact h
    have HCH2 : Hid (∀ w9, Below w7.heap.size w7 w9 → Calls Try.prog 15 #[.agg #[.int .i64 N, .slice (some ⟨gr, 0, none⟩) M c9], .int .i64 root] w9 (RetL N (IsThr esU root N) w9)) := fun w9 h9 => by
      have h := pthrough_any w9 N c9 w5.heap.size (some ⟨gr, 0, none⟩) esU root (by rw [HLU.out]; exact HGU7.out.below (h9.mono HZ7.out)) (Nat.le_trans HZ7.out h9.size) HOKU.out hN2 hN1 (by rw [HLU.out]; exact hM)
      rw [HLU.out] at h
      exact h
    have B8 : Below w7.heap.size w7 w7.drew := (Below.refl _ _).drew
    go_upto_region 11 with fail
    go_cut [11, 12] (fun x5 x6 wx => ∃ (g3 g4 : Nat) (l3 l4 : List Int), x5 = .slice (some ⟨g3, 0, none⟩) N N ∧ x6 = .slice (some ⟨g4, 0, none⟩) N N ∧ l3.length = N ∧ l4.length = N ∧ Blk wx g3 3 (ints l3).toArray ∧ Blk wx g4 3 (ints l4).toArray ∧ IsThr es root N l3 ∧ IsThr esU root N l4 ∧ Below w7.heap.size w7 wx)
    case first =>
      go_region_held3 (fun w9 => w9.cell? ⟨bh, 0, none⟩ = some (.int .i64 N) ∧ w9.cell? ⟨bh, 1, none⟩ = some (.slice E M ce) ∧ w9.cell? ⟨g8, 0, none⟩ = some (.int .i64 N) ∧ w9.cell? ⟨g8, 1, none⟩ = some (.slice (some ⟨gr, 0, none⟩) M c9) ∧ Below w7.heap.size w7 w9)
        (first | exact H9.out _ B8 | exact H9.out _ X4 | exact H9.out _ X3)
        (first
          | (go_at_call 15; (with_reducible refine (HCH1.out _ B8).mono ?_); rintro e w3 ⟨g3, l3, rfl, hl3, kk, ho3, hg, hb⟩; have X3 : Below w7.heap.size w7 w3 := B8.trans (hb.mono B8.size); have K33 := Lib.hid kk; have L3 := Lib.hid (And.intro hl3 ho3); clear hl3 kk ho3 hg hb)
          | (go_at_call 15; (with_reducible refine (HCH2.out _ X3).mono ?_); rintro e w4 ⟨g4, l4, rfl, hl4, kk, ho4, hg, hb⟩; have X4 : Below w7.heap.size w7 w4 := X3.trans (hb.mono X3.size); have K44 := Lib.hid kk; have L4 := Lib.hid (And.intro hl4 ho4); have K34 := Lib.hid (K33.out.below hb K33.out.lt); clear hl4 kk ho4 hg hb))
      all_goals
        go_wp2_with fail
        go_meet
        exact ⟨g3, g4, l3, l4, rfl, rfl, L3.out.1, L4.out.1, K34.out, K44.out, L3.out.2, L4.out.2, X4⟩
    case rest =>
    obtain ⟨gc, gd, lc, ld, rfl, rfl, hl3, hl4, K3, K4, ho3, ho4, X4⟩ := hcut
    rename World => w8
    have HLc := Lib.hid (And.intro hl3 (And.intro K3 ho3))
    have HLd := Lib.hid (And.intro hl4 (And.intro K4 ho4))
    have HKH8 := Lib.hid (HKH7.out.below X4 HKH7.out.lt)
    have HK88 := Lib.hid (HK87.out.below X4 HK87.out.lt)
    have HGU8 := Lib.hid (HGU7.out.below (X4.mono HZ7.out))
    have HB8 : Hid (Below w.heap.size w w8) := HB7.out.trans (X4.mono HB7.out.size)
    have HZ8 : Hid (w5.heap.size ≤ w8.heap.size) := Nat.le_trans HZ7.out X4.size
    have HKa := Lib.hid (HLa.out.2.1.below X4 HLa.out.2.1.lt)
    have HKb := Lib.hid (HLb.out.2.1.below X4 HLb.out.2.1.lt)
    clear hl3 hl4 K3 K4 ho3 ho4 B8 H9 HKH7 HK87 HGU7 HB7 HZ7 HCH1 HCH2 X4 HK88 HGU8 HZ8
    have HLES : Hid (∀ v a b c d, v < N → la[v]? = some a → lb[v]? = some b → lc[v]? = some c → ld[v]? = some d → b ≤ a ∧ d ≤ c) := fun v a b c d hv ha hb hc hd => by
      obtain ⟨U, hs, ho⟩ := HLa.out.2.2
      obtain ⟨U2, hs2, ho2⟩ := HLb.out.2.2
      obtain ⟨U3, O3, hs3, ho3, h3⟩ := HLc.out.2.2
      obtain ⟨U4, O4, hs4, ho4, h4⟩ := HLd.out.2.2
      obtain rfl := hs.uniq hs3
      obtain rfl := hs2.uniq hs4
      obtain rfl := ho.uniq ho3
      obtain rfl := ho2.uniq ho4
      have hin : ∀ i, inC U2 i ≤ inC U i := fun i => by
        have h := hs2.raise hs (fun x hx => by obtain ⟨x', h1, h2, h3, h4, h5⟩ := HCH.out x hx; exact ⟨x', h1, h2, h3, h4, h5⟩) i
        unfold inC
        unfold vle at h
        omega
      have hot := ho.cheaper ho2 hin (fun x hx => by obtain ⟨x', h1, h2, h3, _, h5⟩ := HCH.out x hx; exact ⟨x', h1, h2, h3, h5⟩) v
      have e3 := h3 v hv
      have e4 := h4 v hv
      rw [hc] at e3
      rw [hd] at e4
      injection e3 with e3
      injection e4 with e4
      rw [gi_at ha, gi_at hb] at hot
      refine ⟨hot, ?_⟩
      rw [e3, e4, gi_at ha, gi_at hb]
      have := hin v
      exact mn_mono (by omega)
    have c0 : w8.cell? ⟨bh, 0, none⟩ = some (.int .i64 N) := HKH8.out.cell 0
    have hq1 : ((N : Int) != (N : Int)) = false := by simp
    go_wp2_with fail
    clear hq1 c0
    go_loopw [13] (fun x wr => ∃ v : Nat, v ≤ N ∧ x = .int .i64 v ∧ Hid (∃ j, wr = w8.drewN j)) (fun x _ => N - (intOf x).toNat)
    case atStart => exact ⟨0, Nat.zero_le _, rfl, drew0 _⟩
    case round =>
      obtain ⟨v, hv, rfl, HW⟩ := hrel
      obtain ⟨jw, rfl⟩ := HW.out
      have c0 : w8.cell? ⟨bh, 0, none⟩ = some (.int .i64 N) := HKH8.out.cell 0
      by_cases hlv : v < N
      case neg =>
        have hlvD : decide (v < N) = false := by simp [hlv]
        go_wp2_with fail
        go_ret
        exact ⟨rfl, below_drewN HB8.out _⟩
      case pos =>
        have hlvD : decide (v < N) = true := by simp [hlv]
        obtain ⟨a, ha⟩ : ∃ a, la[v]? = some a := ⟨_, List.getElem?_eq_getElem (by rw [HLa.out.1]; exact hlv)⟩
        obtain ⟨b, hb⟩ : ∃ b, lb[v]? = some b := ⟨_, List.getElem?_eq_getElem (by rw [HLb.out.1]; exact hlv)⟩
        obtain ⟨c, hc⟩ : ∃ c, lc[v]? = some c := ⟨_, List.getElem?_eq_getElem (by rw [HLc.out.1]; exact hlv)⟩
        obtain ⟨d, hd⟩ : ∃ d, ld[v]? = some d := ⟨_, List.getElem?_eq_getElem (by rw [HLd.out.1]; exact hlv)⟩
        obtain ⟨h1, h2⟩ := HLES.out v a b c d hlv ha hb hc hd
        have x0 := HKa.out.gint ha
        have x1 := HKb.out.gint hb
        have x2 := HLc.out.2.1.gint hc
        have x3 := HLd.out.2.1.gint hd
        have hD1 : decide (a < b) = false := by simp; omega
        have hD2 : decide (c < d) = false := by simp; omega
        clear ha hb hc hd h1 h2
        go_wp2_with fail
        go_quiet (fail)
        go_wp2_with fail
        go_roundw
        case rel => exact ⟨v + 1, by omega, by go_num, drew1 _ _⟩
        case measure => simp [intOf]; omega
end Go.Proofs.Ytbalhkbpmahkgaa

namespace Go.Proofs.Ytbalhkbpmahkgaa
open Go.ChangeShapes Go.WideShapes Go.ChangeAt Go.RowKit

set_option maxRecDepth 100000 in
theorem lawOuLChp_lifted (os : Os) (started : os.Started) (H : Type) (enc : TypeId × Value → H) :
    ReturnsInHanded {} Try.checked os 9 .any (Rows.outsideCheaperEdgeSpec.pre6 enc Try.prog Try.f9 Rows.outsideCheaperEdgeRow.domain false)
      (Rows.outsideCheaperEdgeSpec.post enc Try.prog Try.f9 false true false false) := by
  refine returnsInHanded_of_change (C := Try.checked) Try.own started (by kernel_rfl) Try.func9
    (ChangeSpec.witness6 (enc := enc) (C := Try.checked) false ⟨#[], #[.agg #[.int .i64 0, .slice none 0 0], .int .i64 0, .int .u16 0], []⟩ 8 (by kernel_rfl) (by kernel_rfl) (by kernel_rfl) (by kernel_rfl)) ?_
  intro W base args ds gs before hval0 hW hcnd _
  have hval : ∀ (j : Nat) t v, Try.f9.params[j]? = some t → args[j]? = some v → Value.okWide Try.prog W .any base t v := hval0
  have hW' := hW
  obtain ⟨p, q, hA0, hV, rfl, hfz, hnd⟩ := hW
  have hA : DataW.TrodAll enc Try.prog W 0 (fun _ => true) true Try.f9.params.toList args.toList ds p := hA0
  rw [Try.params9] at hA hval
  obtain ⟨v0, v1, v2, d0, d1, d2, p0, p1, p2, rfl, rfl, rfl, h0, h1, h2⟩ := trodAll_three hA
  obtain ⟨rfl, rfl⟩ := trodVars_none hV
  obtain ⟨Z0, A0, c0, es0, rfl, hg0, hec0, hc0⟩ := open_hg (hval 0 24 v0 rfl rfl) h0
  obtain ⟨x1, rfl, _, _, wx1⟩ := open_int Try.underlying3 (hval 1 3 v1 rfl rfl) h1
  obtain ⟨x2, rfl, _, _, wx2⟩ := open_int Try.underlying51 (hval 2 51 v2 rfl rfl) h2
  refine (lawChp_any Z0 c0 W.heap.size A0 es0 x1 W hg0 (Nat.le_refl _) x2 (bounds_u16 wx2)).mono fun e W' ⟨he, hb⟩ => ?_
  subst he
  exact ⟨_, rfl, law_post (by kernel_rfl) (by kernel_rfl) rfl (by kernel_rfl) hW' rfl rfl rfl hb⟩

theorem lawOuLChp_holds : Rows.OutsideCheaperEdgeSaid :=
  OpenClaim.holds_of_wide 9 Try.f9 rfl rfl rfl rfl rfl rfl rfl ⟨rfl, rfl, rfl, rfl, rfl⟩ rfl rfl rfl rfl rfl (by kernel_rfl) Try.func9 (by kernel_rfl)
    (of_decide_eq_true (by kernel_rfl)) (by unfold Func.isWrapper; first | (rw [if_pos (by decide +kernel)]; kernel_rfl) | (rw [if_neg (by decide +kernel)]; exact ⟨rfl, rfl⟩))
    (fun os started H enc _ => lawOuLChp_lifted os started H enc)
#print axioms lawOuLChp_holds
end Go.Proofs.Ytbalhkbpmahkgaa
