/- The law KnuthMonotone. -/
import Derived.Test.YtkeiakmfnammbaaKnRowsB
import Derived.Test.YtkeiakmfnammbaaKnLLess
import Derived.Test.YtkeiakmfnammbaaOpen
namespace Go.Proofs.Ytkeiakmfnammbaa
open Go.RowKit

set_option maxRecDepth 100000 in
set_option maxHeartbeats 8000000 in
theorem lawMono_any (Z : Int) (ce B : Nat) (E : Option Addr) (es : List Ed) (x y : Int) (w : World) (hE : HG w B E es.length es) (hB : B ≤ w.heap.size) (hce : es.length ≤ ce) (hcm : ce ≤ maxLen) (hx : 0 ≤ x ∧ x ≤ 255) (hy : 0 ≤ y ∧ y ≤ 65535) : Calls Try.prog 10 #[.agg #[.int .i64 Z, .slice E es.length ce], .int .u8 x, .int .u16 y] w fun e w' => e = .returned (.bool true) ∧ Below w.heap.size w w' := by
  have HE := Lib.hid (hE.more hB)
  unfold maxLen at hcm
  obtain ⟨xk, rfl⟩ := Int.eq_ofNat_of_zero_le hx.1
  have hxk : xk ≤ 255 := by omega
  clear hx
  clear hE
  obtain ⟨M, hMM⟩ : ∃ M, es.length = M := ⟨_, rfl⟩
  rw [hMM] at HE hce ⊢
  have HMM := Lib.hid hMM
  clear hMM
  go_enter Try.func10, Try.ntmps10
  go_wp2_with fail
  obtain ⟨w1, hw1⟩ : ∃ w1, w.alloc (.cells #[.int .i64 Z, .slice E M ce] 34) = w1 := ⟨_, rfl⟩
  rw [hw1]
  obtain ⟨bh, hbh⟩ : ∃ bh, w.heap.size = bh := ⟨_, rfl⟩
  have HKH1 : Hid (Blk w1 bh 34 #[.int .i64 Z, .slice E M ce]) := by rw [← hw1]; exact Blk.new' w _ _ hbh
  have HB1 : Hid (Below w.heap.size w w1) := by rw [← hw1]; exact (Below.refl _ _).alloc (Nat.le_refl _) _
  try rw [hbh]
  have HBH := Lib.hid hbh
  clear hw1 hbh
  have hs := bounded_any w1 Z ce w.heap.size E es (by rw [HMM.out]; exact HE.out.below HB1.out) HB1.out.size
  rw [HMM.out] at hs
  refine hs.mono ?_
  rintro e w2 ⟨b, rfl, hb, hbw⟩
  have HBB := Lib.hid hb
  have HKH2 := Lib.hid (HKH1.out.below hbw HKH1.out.lt)
  have HB2 : Hid (Below w.heap.size w w2) := HB1.out.trans (hbw.mono HB1.out.size)
  clear hs hb hbw HKH1 HB1
  cases b with
  | false =>
    go_wp2_with fail
    refine (awake_any _).mono ?_
    rintro e wa ⟨rfl, hba⟩
    go_wp2_with fail
    go_ret
    exact ⟨rfl, HB2.out.trans (hba.mono HB2.out.size)⟩
  | true =>
  obtain ⟨N, hZ, hN1, hN2, hM, hok, V0, hsol0, hsz⟩ := HBB.out rfl
  rw [HMM.out] at hM
  subst hZ
  have HOK := Lib.hid hok
  have HS0 := Lib.hid (And.intro hsol0 hsz)
  have c0 : w2.cell? ⟨bh, 0, none⟩ = some (.int .i64 N) := HKH2.out.cell 0
  have c1 : w2.cell? ⟨bh, 1, none⟩ = some (.slice E M ce) := HKH2.out.cell 1
  clear hok HBB hsol0 hsz
  obtain ⟨i0, hi0, hz0, hz1, hz2⟩ := info_parts infoHe
  by_cases hM0 : M = 0
  case pos =>
    have hz : ((M : Int) == 0) = true := by rw [hM0]; rfl
    have hz' : decide (M = 0) = true := by simp [hM0]
    clear hM0
    go_wp2_with fail
    refine (awake_any _).mono ?_
    rintro e wa ⟨rfl, hba⟩
    go_wp2_with fail
    go_ret
    exact ⟨rfl, HB2.out.trans (hba.mono HB2.out.size)⟩
  case neg =>
  have hz : ((M : Int) == 0) = false := by rw [beq_eq_false_iff_ne]; omega
  have hz' : decide (M = 0) = false := by simp [hM0]
  obtain ⟨k, hk⟩ : ∃ k, xk % M = k := ⟨_, rfl⟩
  have hkM : k < M := by have := Nat.mod_lt xk (show 0 < M by omega); omega
  have HKM := Lib.hid hk
  have v1 : IntKind.i64.wrap (xk : Int) = (xk : Int) := IntWalk.i64_in _ (by omega)
  have v2 : (xk : Int).tmod (M : Int) = (k : Int) := by rw [← HKM.out]; rfl
  have v3 : xk % M = k := HKM.out
  have v5 : IntKind.i64.wrap (k : Int) = (k : Int) := IntWalk.i64_in _ (by omega)
  have v8 : (xk : Int) % (M : Int) = (k : Int) := by rw [← v3]; exact (Int.natCast_emod xk M).symm
  have hM0' : ¬ M = 0 := hM0
  clear hk
  go_upto_region 4 with fail
  clear v1 v2 v3 v5 v8 hz hz' hM0'
  have H9 : Hid (∀ w9, Below w2.heap.size w2 w9 → w9.cell? ⟨bh, 0, none⟩ = some (.int .i64 N) ∧ w9.cell? ⟨bh, 1, none⟩ = some (.slice E M ce) ∧ Below w2.heap.size w2 w9) := fun w9 h => by
    have K := HKH2.out.below h HKH2.out.lt
    exact ⟨K.cell 0, K.cell 1, h⟩
  clear c0 c1
  go_cut [8, 9] (fun x8 x9 wx => ∃ g8 g9 : Nat, x8 = .pointer (some ⟨g8, 0, none⟩) ∧ x9 = .pointer (some ⟨g9, 0, none⟩) ∧ Blk wx g8 34 #[.int .i64 N, .slice E M ce] ∧ Blk wx g9 34 #[.int .i64 N, .slice E M ce] ∧ Below w2.heap.size w2 wx ∧ g8 ≠ g9 ∧ w2.heap.size ≤ g8 ∧ w2.heap.size ≤ g9)
  case first =>
    go_region_held3 (fun w' => w'.cell? ⟨bh, 0, none⟩ = some (.int .i64 N) ∧ w'.cell? ⟨bh, 1, none⟩ = some (.slice E M ce) ∧ Below w2.heap.size w2 w')
      ((refine H9.out _ ?_; repeat (first | exact Below.refl _ _ | refine Below.drew ?_ | refine Below.alloc ?_ (by simp) _ | refine Below.setCell ?_ (by simp) _))) (fail)
    all_goals
      go_wp2_with fail
      go_meet
      first
        | exact ⟨_, _, rfl, rfl, (Blk.new' w2 _ _ rfl).alloc _, Blk.new' (w2.alloc _) _ _ (by simp), (((Below.refl _ _).alloc (Nat.le_refl _) _).alloc (by simp) _).drew, by simp, by simp, by simp⟩
        | exact ⟨_, _, rfl, rfl, Blk.new' (w2.alloc _) _ _ (by simp), (Blk.new' w2 _ _ rfl).alloc _, (((Below.refl _ _).alloc (Nat.le_refl _) _).alloc (by simp) _).drew, by simp, by simp, by simp⟩
  case rest =>
    obtain ⟨g8, g9, rfl, rfl, K8, K9, hx3, hne, hg8, hg9⟩ := hcut
    rename World => w3
    have HKH3 := Lib.hid (HKH2.out.below hx3 HKH2.out.lt)
    have HB3 : Hid (Below w.heap.size w w3) := HB2.out.trans (hx3.mono HB2.out.size)
    have HGG := Lib.hid (show g8 ≠ g9 ∧ w.heap.size ≤ g8 ∧ w.heap.size ≤ g9 ∧ bh < g8 ∧ bh < g9 from ⟨hne, Nat.le_trans HB2.out.size hg8, Nat.le_trans HB2.out.size hg9, by have := HKH2.out.lt; omega, by have := HKH2.out.lt; omega⟩)
    have HK8 := Lib.hid K8
    have HK9 := Lib.hid K9
    have HRE := Lib.hid ((HE.out.below HB3.out).1.more HB3.out.size)
    have HEO : Hid (∀ u ∈ eds es, u.oneCell' = true) := fun u hu => eds_one hu
    have hg8l := K8.lt
    have hg9l := K9.lt
    have c1 : w3.cell? ⟨bh, 1, none⟩ = some (.slice E M ce) := HKH3.out.cell 1
    clear K8 K9 hx3 hne hg8 hg9 H9 HKH2 HB2
    have HO0 : Hid ((w3.alloc (.cells #[] 43)).ownsRow w3.heap.size 43 5 (.slice (some ⟨w3.heap.size, 0, none⟩) 0 0) 0 []) :=
      ⟨rfl, .inr ⟨w3.heap.size, 0, #[], rfl, Nat.le_refl _, Blk.new w3 _ _, Nat.le_refl _, by unfold maxLen; omega, rfl, rfl⟩⟩
    have c1a : (w3.alloc (.cells #[] 43)).cell? ⟨bh, 1, none⟩ = some (.slice E M ce) := (HKH3.out.alloc _).cell 1
    have HREa := Lib.hid (HRE.out.below ((Below.refl w3.heap.size w3).alloc (Nat.le_refl _) (.cells #[] 43)))
    have hzb : w3.heap.size ≤ (w3.alloc (.cells #[] 43)).heap.size := by simp
    have e80 : (w3.alloc (.cells #[] 43)).cell? ⟨g8, 0, none⟩ = some (.int .i64 N) := (HK8.out.alloc _).cell 0
    have e81 : (w3.alloc (.cells #[] 43)).cell? ⟨g8, 1, none⟩ = some (.slice E M ce) := (HK8.out.alloc _).cell 1
    go_wp2_with (at_builtin; go_must (refine wpList_append_any _ (by rfl) _ _ 32 (by rfl) w3.heap.size 43 i0 (.agg #[.int .i64 0, .slice none 0 0, .int .i64 0, .int .i64 0, .int .i64 0]) 5 56 Try.underlying32 hi0 hz0 hz1 hz2 rfl (by decide) (.slice (some ⟨w3.heap.size, 0, none⟩) 0 0) 0 [] (by rfl) HO0.out w3.heap.size E M ce (eds es) (by rfl) HREa.out HEO.out (by unfold maxLen; omega) (by omega) hzb ?_; intro v5 w5 hown5 hgrow5 hat5; obtain ⟨A5, cA, rfl, hc5, _⟩ := own_form hown5; simp only [Nat.zero_add, List.nil_append] at hown5; simp only [Nat.zero_add]; have HOW5 := Lib.hid hown5; have hx5 : Below w3.heap.size w3 w5 := ((Below.refl _ w3).alloc (Nat.le_refl _) _).grown hgrow5 (by simp) (fun q hq => (by have h2 : w3.heap.size = q := (by simpa [Value.ownBlock] using hq); omega)); have HX5 := Lib.hid hx5; have f81 : w5.cell? ⟨g8, 1, none⟩ = some (.slice E M ce) := (HK8.out.below hx5 hg8l).cell 1; have z81 := (HK8.out.below hx5 hg8l).frozen 1; clear hown5 hgrow5 hat5 hx5))
    obtain ⟨w6, hw6⟩ : ∃ w6, w5.setCell ⟨g8, 1, none⟩ (.slice A5 M cA) = w6 := ⟨_, rfl⟩
    obtain ⟨gr, cur5, hA5, hgr5, hMc, hgrb⟩ := own_form' HOW5.out (by omega)
    subst hA5
    have hsz5 := HX5.out.size
    have hg8b : g8 < gr := by omega
    have HK8a : Hid (Blk w6 g8 34 #[.int .i64 N, .slice (some ⟨gr, 0, none⟩) M cA]) := by
      rw [← hw6]
      have := (HK8.out.below HX5.out hg8l).set_ 1 (.slice (some ⟨gr, 0, none⟩) M cA)
      simp at this
      exact this
    have HK9a : Hid (Blk w6 g9 34 #[.int .i64 N, .slice E M ce]) := by rw [← hw6]; exact (HK9.out.below HX5.out hg9l).far (p := ⟨g8, 1, none⟩) (fun e => HGG.out.1 e.symm) _
    have HKHa : Hid (Blk w6 bh 34 #[.int .i64 N, .slice E M ce]) := by rw [← hw6]; exact (HKH3.out.below HX5.out HKH3.out.lt).far (p := ⟨g8, 1, none⟩) (by have := HGG.out; show bh ≠ g8; omega) _
    have HBa : Hid (Below w.heap.size w w6) := by rw [← hw6]; exact (HB3.out.trans (HX5.out.mono HB3.out.size)).setCell (p := ⟨g8, 1, none⟩) HGG.out.2.1 _
    have HOa : Hid (w6.ownsRow w3.heap.size 43 5 (.slice (some ⟨gr, 0, none⟩) M cA) M (eds es)) := by
      rw [← hw6]
      exact own_touch HOW5.out (F := fun k => k = g8) ((Touch.refl (fun k => k = g8) w5).setCell (p := ⟨g8, 1, none⟩) (.inl rfl) _) (fun q hq e => by have h2 : gr = q := (by simpa [Value.ownBlock] using hq); omega)
    rw [hw6]
    obtain ⟨e, he⟩ : ∃ e, es[k]? = some e := ⟨_, List.getElem?_eq_getElem (by have := HMM.out; omega)⟩
    have HEk := Lib.hid he
    have heok := HOK.out e (List.mem_of_getElem? he)
    have HOKE := Lib.hid heok
    have hc0 := heok.cost.1
    have hc1 := heok.cost.2
    have hrow : w6.cell? ⟨gr, k * 5 + 2, none⟩ = some (.int .i64 e.cost) := by
      obtain ⟨bb, oo, h1, _, h2⟩ := (Reads.of_own HOa.out).2 (by omega)
      injection h1 with h1
      injection h1 with e1 e2 _
      subst e1 e2
      have := h2 (k * 5 + 2) (.int .i64 e.cost) (by rw [eds_at es k _ 2 he (by omega)]; rfl)
      simpa using this
    have hrz : w6.frozen? ⟨gr, k * 5 + 2, none⟩ = false := by
      rcases HOa.out.2 with ⟨hv, _⟩ | ⟨g', cap, cur, hv, _, hg, _⟩
      · injection hv with h1; cases h1
      · injection hv with h1
        injection h1 with h1
        injection h1 with h1
        subst h1
        exact Blk.frozen (t := 43) (cs := cur) hg _
    have k81 : w6.cell? ⟨g8, 1, none⟩ = some (.slice (some ⟨gr, 0, none⟩) M cA) := HK8a.out.cell 1
    have u1 : IntKind.i64.wrap y = y := IntWalk.i64_in _ (by omega)
    have u2 : IntKind.i64.wrap (e.cost + y) = e.cost + y := IntWalk.i64_in _ (by omega)
    obtain ⟨q, hq⟩ : ∃ q, min (e.cost + y) 1099511627776 = q := ⟨_, rfl⟩
    have HQL : Hid (e.cost ≤ q ∧ 0 ≤ q ∧ q ≤ 1099511627776) := ⟨by omega, by omega, by omega⟩
    clear hw6 hgr5 HOW5 f81 z81 hsz5 c1 c1a e80 e81 HO0 HREa hzb he heok hc5
    go_region
    try rw [hq]
    obtain ⟨w7, hw7⟩ : ∃ w7, World.drew (w6.setCell ⟨gr, k * 5 + 2, none⟩ (.int .i64 q)) = w7 := ⟨_, rfl⟩
    have hgb0 : bh < gr ∧ g9 < gr := by have := HGG.out; omega
    have hgrw : w.heap.size ≤ gr := by have := HGG.out; omega
    have HK8b : Hid (Blk w7 g8 34 #[.int .i64 N, .slice (some ⟨gr, 0, none⟩) M cA]) := by rw [← hw7]; exact (HK8a.out.far (p := ⟨gr, k * 5 + 2, none⟩) (by show g8 ≠ gr; omega) _).drew1
    have HK9b : Hid (Blk w7 g9 34 #[.int .i64 N, .slice E M ce]) := by rw [← hw7]; exact (HK9a.out.far (p := ⟨gr, k * 5 + 2, none⟩) (by show g9 ≠ gr; omega) _).drew1
    have HKHb : Hid (Blk w7 bh 34 #[.int .i64 N, .slice E M ce]) := by rw [← hw7]; exact (HKHa.out.far (p := ⟨gr, k * 5 + 2, none⟩) (by show bh ≠ gr; omega) _).drew1
    have HBb : Hid (Below w.heap.size w w7) := by rw [← hw7]; exact below_drew1 (HBa.out.setCell (p := ⟨gr, k * 5 + 2, none⟩) hgrw _)
    have HOb : Hid (w7.ownsRow w3.heap.size 43 5 (.slice (some ⟨gr, 0, none⟩) M cA) M (eds (es.set k (e.wc q)))) := by
      rw [← hw7, ← eds_wc es k e q HEk.out]
      exact own_below (own_setCell HOa.out (k * 5 + 2) (.int .i64 q) (by omega)) (below_drew1 (Below.refl _ _))
    rw [hw7]
    clear hw7 hrow hrz k81 u1 u2 hq HOa HK8a HK9a HKHa HBa
    obtain ⟨bE, oE, _, hE', hbE, _⟩ := HE.out.at_ hkM
    subst hE'
    have HRE7 := Lib.hid ((HE.out.below HBb.out).1.more HBb.out.size)
    have HOA : Hid ((w7.alloc (.cells #[] 43)).drew.ownsRow w7.heap.size 43 5 (.slice (some ⟨w7.heap.size, 0, none⟩) 0 0) 0 []) :=
      ⟨rfl, .inr ⟨w7.heap.size, 0, #[], rfl, Nat.le_refl _, Blk.new w7 _ _, Nat.le_refl _, by unfold maxLen; omega, rfl, rfl⟩⟩
    have BA : Below w7.heap.size w7 (w7.alloc (.cells #[] 43)).drew := ((Below.refl _ w7).alloc (Nat.le_refl _) _).drew
    have HRA := Lib.hid (HRE7.out.below BA)
    have HRA1 := Lib.hid (HRA.out.take_ (j := k) (by omega))
    have hzA : w7.heap.size ≤ (w7.alloc (.cells #[] 43)).drew.heap.size := BA.size
    have B8 : Below w7.heap.size w7 w7.drew := (Below.refl _ _).drew
    have hbl7 := HKHb.out.lt
    have h97 := HK9b.out.lt
    have H9 : Hid (∀ w9, Below w7.heap.size w7 w9 → w9.cell? ⟨bh, 1, none⟩ = some (.slice (some ⟨bE, oE, none⟩) M ce)) := fun w9 h => (HKHb.out.below h hbl7).cell 1
    have HEO1 : Hid (∀ u ∈ (eds es).take (k * 5), u.oneCell' = true) := fun u hu => HEO.out u (List.mem_of_mem_take hu)
    have HEO2 : Hid (∀ u ∈ (eds es).drop ((k + 1) * 5), u.oneCell' = true) := fun u hu => HEO.out u (List.mem_of_mem_drop hu)
    have hn9 : g9 ≠ bh := by have := HGG.out; omega
    have u1 : IntKind.i64.wrap ((k : Int) + 1) = (k : Int) + 1 := IntWalk.i64_in _ (by omega)
    have u2 : ((k : Int) + 1).toNat = k + 1 := by omega
    have u3 : (0 : Int) ≤ (k : Int) + 1 := by omega
    have hjc : k ≤ ce := by omega
    have hjc2 : k + 1 ≤ M := by omega
    have hnj : k ≤ M := by omega
    have u4 : (k : Int) + 1 ≤ (M : Int) := by omega
    have u5 : (k : Int) + 1 ≤ (ce : Int) := by omega
    have u6 : (M : Int) ≤ (ce : Int) := by omega
    go_upto_region 7 with fail
    go_cut [7] (fun x7 wx => x7 = .int .i64 k ∧ ∃ (A10 : Option Addr) (c10 : Nat), Blk wx g9 34 #[.int .i64 N, .slice A10 (k + (M - (k + 1))) c10] ∧ wx.ownsRow w7.heap.size 43 5 (.slice A10 (k + (M - (k + 1))) c10) (k + (M - (k + 1))) (eds (es.take k ++ es.drop (k + 1))) ∧ Touch (fun z => z = g9) w7 wx)
    case first =>
      by_cases hcap : k + 1 = ce
      case pos =>
        have HDR : Hid (∀ w9 : World, Reads w9 w9.heap.size 5 (some ⟨bE, oE, none⟩) (M - (k + 1)) ((eds es).drop ((k + 1) * 5))) := fun w9 => ⟨by rw [List.length_drop, eds_length, HMM.out]; omega, fun h => by omega⟩
        have hcT : (ce = k + 1) = True := by simp only [eq_iff_iff, iff_true]; omega
        clear hcap
        go_region_held3 (fun w' => w'.cell? ⟨bh, 1, none⟩ = some (.slice (some ⟨bE, oE, none⟩) M ce))
          (first | exact H9.out _ B8 | exact H9.out _ BA | exact H9.out _ X9 | exact H9.out _ X10 | exact HFE.out)
          (first
            | (refine step_append_any _ (by rfl) _ _ 32 (by rfl) w7.heap.size 43 i0 (.agg #[.int .i64 0, .slice none 0 0, .int .i64 0, .int .i64 0, .int .i64 0]) 5 56 Try.underlying32 hi0 hz0 hz1 hz2 rfl (by decide) (.slice (some ⟨w7.heap.size, 0, none⟩) 0 0) 0 [] (by rfl) HOA.out _ (some ⟨bE, oE, none⟩) k ce ((eds es).take (k * 5)) (by rfl) HRA1.out HEO1.out (by unfold maxLen; omega) (by omega) hzA ?_; intro v9 w9 hown9 hgrow hat; obtain ⟨A9, c9, rfl, hc9, _⟩ := own_form hown9; simp only [Nat.zero_add, List.nil_append] at hown9 hat; simp only [Nat.zero_add]; have HOW9 := Lib.hid hown9; have X9 : Below w7.heap.size w7 w9 := BA.grown hgrow hzA (fun z hz => own_ge HOA.out hz); have hz9 := X9.size; clear hown9 hgrow hat hc9)
            | (refine step_append_any _ (by rfl) _ _ 32 (by rfl) w7.heap.size 43 i0 (.agg #[.int .i64 0, .slice none 0 0, .int .i64 0, .int .i64 0, .int .i64 0]) 5 56 Try.underlying32 hi0 hz0 hz1 hz2 rfl (by decide) (.slice A9 k c9) k ((eds es).take (k * 5)) (by rfl) HOW9.out _ (some ⟨bE, oE, none⟩) (M - (k + 1)) (ce - (k + 1)) ((eds es).drop ((k + 1) * 5)) (by rfl) (HDR.out w9) HEO2.out (by unfold maxLen; omega) (by omega) hz9 ?_; intro v10 w10 hown10 hgrow10 hat10; obtain ⟨A10, c10, rfl, hc10, _⟩ := own_form hown10; have HOW10 := Lib.hid hown10; have X10 : Below w7.heap.size w7 w10 := X9.grown hgrow10 hz9 (fun z hz => own_ge HOW9.out hz); have f91 : w10.cell? ⟨g9, 1, none⟩ = some (.slice (some ⟨bE, oE, none⟩) M ce) := (HK9b.out.below X10 h97).cell 1; have z91 := (HK9b.out.below X10 h97).frozen 1; have HFE := Lib.hid (show (w10.setCell ⟨g9, 1, none⟩ (.slice A10 (k + (M - (k + 1))) c10)).cell? ⟨bh, 1, none⟩ = some (.slice (some ⟨bE, oE, none⟩) M ce) from (World.cell?_setCell_far _ _ _ _ hn9).trans (H9.out _ X10)); clear hown10 hgrow10 hat10 hc10))
        all_goals
          go_wp2_with fail
          go_meet
          refine ⟨rfl, A10, c10, ?_, ?_, ?_⟩
          · have := (HK9b.out.below X10 h97).set_ 1 (.slice A10 (k + (M - (k + 1))) c10)
            simpa using this
          · rw [eds_append, eds_take, eds_drop]
            exact own_touch HOW10.out (F := fun z => z = g9) ((Touch.refl (fun z => z = g9) w10).setCell (p := ⟨g9, 1, none⟩) (.inl rfl) _) (fun z hz e => by have := own_ge HOW10.out hz; omega)
          · exact Touch.setCell (F := fun z => z = g9) (Touch.of_below X10) (p := ⟨g9, 1, none⟩) (.inl rfl) _
      case neg =>
        have hcap2 : k + 1 < ce := by omega
        have hcap3 : ¬ ce = k + 1 := by omega
        go_region_held3 (fun w' => w'.cell? ⟨bh, 1, none⟩ = some (.slice (some ⟨bE, oE, none⟩) M ce))
          (first | exact H9.out _ B8 | exact H9.out _ BA | exact H9.out _ X9 | exact H9.out _ X10 | exact HFE.out)
          (first
            | (refine step_append_any _ (by rfl) _ _ 32 (by rfl) w7.heap.size 43 i0 (.agg #[.int .i64 0, .slice none 0 0, .int .i64 0, .int .i64 0, .int .i64 0]) 5 56 Try.underlying32 hi0 hz0 hz1 hz2 rfl (by decide) (.slice (some ⟨w7.heap.size, 0, none⟩) 0 0) 0 [] (by rfl) HOA.out _ (some ⟨bE, oE, none⟩) k ce ((eds es).take (k * 5)) (by rfl) HRA1.out HEO1.out (by unfold maxLen; omega) (by omega) hzA ?_; intro v9 w9 hown9 hgrow hat; obtain ⟨A9, c9, rfl, hc9, _⟩ := own_form hown9; simp only [Nat.zero_add, List.nil_append] at hown9 hat; simp only [Nat.zero_add]; have HOW9 := Lib.hid hown9; have X9 : Below w7.heap.size w7 w9 := BA.grown hgrow hzA (fun z hz => own_ge HOA.out hz); have hz9 := X9.size; clear hown9 hgrow hat hc9)
            | (refine step_append_any _ (by rfl) _ _ 32 (by rfl) w7.heap.size 43 i0 (.agg #[.int .i64 0, .slice none 0 0, .int .i64 0, .int .i64 0, .int .i64 0]) 5 56 Try.underlying32 hi0 hz0 hz1 hz2 rfl (by decide) (.slice A9 k c9) k ((eds es).take (k * 5)) (by rfl) HOW9.out _ (some ⟨bE, oE + (k + 1) * 5, none⟩) (M - (k + 1)) (ce - (k + 1)) ((eds es).drop ((k + 1) * 5)) (by rfl) ((HRE7.out.below X9).drop_ hjc2) HEO2.out (by unfold maxLen; omega) (by omega) hz9 ?_; intro v10 w10 hown10 hgrow10 hat10; obtain ⟨A10, c10, rfl, hc10, _⟩ := own_form hown10; have HOW10 := Lib.hid hown10; have X10 : Below w7.heap.size w7 w10 := X9.grown hgrow10 hz9 (fun z hz => own_ge HOW9.out hz); have f91 : w10.cell? ⟨g9, 1, none⟩ = some (.slice (some ⟨bE, oE, none⟩) M ce) := (HK9b.out.below X10 h97).cell 1; have z91 := (HK9b.out.below X10 h97).frozen 1; have HFE := Lib.hid (show (w10.setCell ⟨g9, 1, none⟩ (.slice A10 (k + (M - (k + 1))) c10)).cell? ⟨bh, 1, none⟩ = some (.slice (some ⟨bE, oE, none⟩) M ce) from (World.cell?_setCell_far _ _ _ _ hn9).trans (H9.out _ X10)); clear hown10 hgrow10 hat10 hc10))
        all_goals
          go_wp2_with fail
          go_meet
          refine ⟨rfl, A10, c10, ?_, ?_, ?_⟩
          · have := (HK9b.out.below X10 h97).set_ 1 (.slice A10 (k + (M - (k + 1))) c10)
            simpa using this
          · rw [eds_append, eds_take, eds_drop]
            exact own_touch HOW10.out (F := fun z => z = g9) ((Touch.refl (fun z => z = g9) w10).setCell (p := ⟨g9, 1, none⟩) (.inl rfl) _) (fun z hz e => by have := own_ge HOW10.out hz; omega)
          · exact Touch.setCell (F := fun z => z = g9) (Touch.of_below X10) (p := ⟨g9, 1, none⟩) (.inl rfl) _
    case rest =>
      obtain ⟨rfl, A10, c10, K9, O9, T9⟩ := hcut
      rename World => w8
      have HKHc := Lib.hid (HKHb.out.touch T9 (fun h => hn9 h.symm))
      have HK8c := Lib.hid (HK8b.out.touch T9 HGG.out.1)
      have HOc := Lib.hid (own_touch HOb.out T9 (fun z hz e => by have h2 : gr = z := (by simpa [Value.ownBlock] using hz); have := hgb0.2; omega))
      have HBc : Hid (Below w.heap.size w w8) := HBb.out.trans (T9.toBelow (fun z hz => by rw [hz]; exact HGG.out.2.2.1) HBb.out.size)
      have HK9c := Lib.hid K9
      have HO9 := Lib.hid O9
      obtain ⟨esU, hU⟩ : ∃ esU, es.set k (e.wc q) = esU := ⟨_, rfl⟩
      obtain ⟨esL, hL⟩ : ∃ esL, es.take k ++ es.drop (k + 1) = esL := ⟨_, rfl⟩
      obtain ⟨mL, hmL⟩ : ∃ mL, k + (M - (k + 1)) = mL := ⟨_, rfl⟩
      have hlU : esU.length = M := by rw [← hU, List.length_set, HMM.out]
      have hlL : esL.length = mL := by rw [← hL, List.length_append, List.length_take, List.length_drop, HMM.out]; omega
      rw [hU] at HOc
      rw [hL, hmL] at HO9
      rw [hmL] at HK9c
      have HGU : Hid (HG w8 w8.heap.size (some ⟨gr, 0, none⟩) M esU) := by
        have h1 := HOc.out
        rw [← hlU] at h1 ⊢
        refine HG.of_own' h1 HBc.out.size (fun x hx => ?_)
        rw [← hU] at hx
        rcases up_mem HEk.out hx with rfl | hm
        · exact (HE.out.below HBc.out).2 e (List.mem_of_getElem? HEk.out)
        · exact (HE.out.below HBc.out).2 x hm
      have HGL : Hid (HG w8 w8.heap.size A10 mL esL) := by
        have h1 := HO9.out
        rw [← hlL] at h1 ⊢
        refine HG.of_own' h1 HBc.out.size (fun x hx => ?_)
        rw [← hL] at hx
        exact (HE.out.below HBc.out).2 x (less_mem (q := q) HEk.out hx).2
      have HLU := Lib.hid hlU
      have HLL := Lib.hid hlL
      have HUL := Lib.hid (And.intro hU hL)
      have k80 : w8.cell? ⟨g8, 0, none⟩ = some (.int .i64 N) := HK8c.out.cell 0
      have k81 : w8.cell? ⟨g8, 1, none⟩ = some (.slice (some ⟨gr, 0, none⟩) M cA) := HK8c.out.cell 1
      clear u1 u2 u3 u4 u5 u6 hjc hjc2 hnj HOA BA HRA HRA1 hzA B8 H9 HEO1 HEO2 HRE7 HOb HK8b HK9b HKHb HBb T9 K9 O9 hU hL hmL hlU hlL HEO HRE HK8 HK9 HKH3 HB3 HX5 hg8l hg9l hbl7 h97
      go_wp2_with fail
      have hs := bounded_any w8 N cA w8.heap.size (some ⟨gr, 0, none⟩) esU (by rw [HLU.out]; exact HGU.out) (Nat.le_refl _)
      rw [HLU.out] at hs
      refine hs.mono ?_
      rintro e9 w9 ⟨bu, rfl, hbu, hb9⟩
      have HBU := Lib.hid hbu
      have HX9 := Lib.hid hb9
      have HB9 : Hid (Below w.heap.size w w9) := HBc.out.trans (hb9.mono HBc.out.size)
      have k90 : w9.cell? ⟨g9, 0, none⟩ = some (.int .i64 N) := (HK9c.out.below hb9 HK9c.out.lt).cell 0
      have k91 : w9.cell? ⟨g9, 1, none⟩ = some (.slice A10 mL c10) := (HK9c.out.below hb9 HK9c.out.lt).cell 1
      clear hs hbu hb9 k80 k81
      cases bu with
      | false =>
        go_wp2_with fail
        refine (awake_any _).mono ?_
        rintro e wa ⟨rfl, hba⟩
        go_wp2_with fail
        go_ret
        exact ⟨rfl, HB9.out.trans (hba.mono HB9.out.size)⟩
      | true =>
        have HBU2 := Lib.hid (HBU.out rfl)
        clear HBU
        go_wp2_with fail
        have hs := bounded_any w9 N c10 w8.heap.size A10 esL (by rw [HLL.out]; exact HGL.out.below HX9.out) HX9.out.size
        rw [HLL.out] at hs
        refine hs.mono ?_
        rintro e10 w10 ⟨bl, rfl, hbl, hb10⟩
        have HBL := Lib.hid hbl
        have HX10 : Hid (Below w8.heap.size w8 w10) := HX9.out.trans (hb10.mono HX9.out.size)
        have HB10 : Hid (Below w.heap.size w w10) := HBc.out.trans (HX10.out.mono HBc.out.size)
        clear hs hbl hb10 k90 k91
        cases bl with
        | false =>
          go_wp2_with fail
          refine (awake_any _).mono ?_
          rintro e wa ⟨rfl, hba⟩
          go_wp2_with fail
          go_ret
          exact ⟨rfl, HB10.out.trans (hba.mono HB10.out.size)⟩
        | true =>
          obtain ⟨NU, hNU, _, _, hMU, hokU, _⟩ := HBU2.out
          obtain rfl : N = NU := by omega
          obtain ⟨NL, hNL, _, _, hML, hokL, _⟩ := HBL.out rfl
          obtain rfl : N = NL := by omega
          have HOKU := Lib.hid hokU
          have HOKL := Lib.hid hokL
          have c0 : w10.cell? ⟨bh, 0, none⟩ = some (.int .i64 N) := (HKHc.out.below HX10.out HKHc.out.lt).cell 0
          have c1 : w10.cell? ⟨bh, 1, none⟩ = some (.slice (some ⟨bE, oE, none⟩) M ce) := (HKHc.out.below HX10.out HKHc.out.lt).cell 1
          clear hokU hokL HBU2 HBL hNU hNL
          go_wp2_with fail
          have hs := solve_any w10 N ce w.heap.size (some ⟨bE, oE, none⟩) es (by rw [HMM.out]; exact HE.out.below HB10.out) HB10.out.size HOK.out hN2 (by rw [HMM.out]; exact hM)
          rw [HMM.out] at hs
          refine hs.mono ?_
          rintro e11 w11 ⟨va, ea, V, rfl, hVl, KV, _, hsol, _, _, hb11⟩
          have HV := Lib.hid KV
          have HS := Lib.hid (And.intro hsol hVl)
          have HX11 : Hid (Below w8.heap.size w8 w11) := HX10.out.trans (hb11.mono HX10.out.size)
          have HB11 : Hid (Below w.heap.size w w11) := HBc.out.trans (HX11.out.mono HBc.out.size)
          have k80 : w11.cell? ⟨g8, 0, none⟩ = some (.int .i64 N) := (HK8c.out.below HX11.out HK8c.out.lt).cell 0
          have k81 : w11.cell? ⟨g8, 1, none⟩ = some (.slice (some ⟨gr, 0, none⟩) M cA) := (HK8c.out.below HX11.out HK8c.out.lt).cell 1
          clear hs hsol hVl KV hb11 c0 c1
          go_wp2_with fail
          have hs := solve_any w11 N cA w8.heap.size (some ⟨gr, 0, none⟩) esU (by rw [HLU.out]; exact HGU.out.below HX11.out) HX11.out.size HOKU.out hN2 hMU
          rw [HLU.out] at hs
          refine hs.mono ?_
          rintro e12 w12 ⟨vu, eu, U, rfl, hUl, KU, _, hsolU, _, _, hb12⟩
          have HVU := Lib.hid KU
          have HSU := Lib.hid (And.intro hsolU hUl)
          have HV12 := Lib.hid (HV.out.below hb12 HV.out.lt)
          have HX12 : Hid (Below w8.heap.size w8 w12) := HX11.out.trans (hb12.mono HX11.out.size)
          have HB12 : Hid (Below w.heap.size w w12) := HBc.out.trans (HX12.out.mono HBc.out.size)
          have k90 : w12.cell? ⟨g9, 0, none⟩ = some (.int .i64 N) := (HK9c.out.below HX12.out HK9c.out.lt).cell 0
          have k91 : w12.cell? ⟨g9, 1, none⟩ = some (.slice A10 mL c10) := (HK9c.out.below HX12.out HK9c.out.lt).cell 1
          clear hs hsolU hUl KU hb12 k80 k81
          go_wp2_with fail
          have hs := solve_any w12 N c10 w8.heap.size A10 esL (by rw [HLL.out]; exact HGL.out.below HX12.out) HX12.out.size HOKL.out hN2 hML
          rw [HLL.out] at hs
          refine hs.mono ?_
          rintro e13 w13 ⟨vl, el, Q, rfl, hQl, KQ, _, hsolL, _, _, hb13⟩
          have HVL := Lib.hid KQ
          have HSL := Lib.hid (And.intro hsolL hQl)
          have HV13 := Lib.hid (HV12.out.below hb13 HV12.out.lt)
          have HVU13 := Lib.hid (HVU.out.below hb13 HVU.out.lt)
          have HX13 : Hid (Below w8.heap.size w8 w13) := HX12.out.trans (hb13.mono HX12.out.size)
          have HB13 : Hid (Below w.heap.size w w13) := HBc.out.trans (HX13.out.mono HBc.out.size)
          have HKH13 := Lib.hid (HKHc.out.below HX13.out HKHc.out.lt)
          have c0 : w13.cell? ⟨bh, 0, none⟩ = some (.int .i64 N) := HKH13.out.cell 0
          have hqN : ((N : Int) != (N : Int)) = false := by simp
          have HLE : Hid ((∀ i, vle (gv V i) (gv U i)) ∧ ∀ i, vle (gv U i) (gv Q i)) := by
            refine ⟨fun i => ?_, fun i => ?_⟩
            · have h1 := HSU.out.1
              rw [← HUL.out.1] at h1
              exact HS.out.1.up h1 HOK.out HEk.out HQL.out.1 i
            · refine HSU.out.1.sub HSL.out.1 (fun x hx => ?_) i
              rw [← HUL.out.2] at hx
              rw [← HUL.out.1]
              exact (less_mem HEk.out hx).1
          clear hs hsolL hQl KQ hb13 k90 k91 HGU HGL HOc HO9 HK8c HK9c
          go_wp2_with fail
          clear c0 hqN
          go_loopw [16] (fun x wr => ∃ i : Nat, i ≤ N ∧ x = .int .i64 i ∧ Hid (Below w13.heap.size w13 wr)) (fun x _ => N - (intOf x).toNat)
          case atStart => exact ⟨0, Nat.zero_le _, rfl, Below.refl _ _⟩
          case round =>
            obtain ⟨i, hi, rfl, HBR⟩ := hrel
            have HBr : Hid (Below w.heap.size w wr) := HB13.out.trans (HBR.out.mono HB13.out.size)
            have c0 : wr.cell? ⟨bh, 0, none⟩ = some (.int .i64 N) := (HKH13.out.below HBR.out HKH13.out.lt).cell 0
            by_cases hlt : i < N
            case neg =>
              have hltD : decide (i < N) = false := by simp [hlt]
              go_wp2_with fail
              refine (awake_any _).mono ?_
              rintro e wa ⟨rfl, hba⟩
              go_wp2_with fail
              go_ret
              exact ⟨rfl, HBr.out.trans (hba.mono HBr.out.size)⟩
            case pos =>
              have hltD : decide (i < N) = true := by simp [hlt]
              obtain ⟨a, ha⟩ : ∃ a, gv U i = a := ⟨_, rfl⟩
              obtain ⟨v, hv⟩ : ∃ v, gv V i = v := ⟨_, rfl⟩
              obtain ⟨b, hb⟩ : ∃ b, gv Q i = b := ⟨_, rfl⟩
              have hai : U[i]? = some a := by rw [← ha, gv, List.getElem?_eq_getElem (by rw [HSU.out.2]; exact hlt)]; rfl
              have hvi : V[i]? = some v := by rw [← hv, gv, List.getElem?_eq_getElem (by rw [HS.out.2]; exact hlt)]; rfl
              have hbi : Q[i]? = some b := by rw [← hb, gv, List.getElem?_eq_getElem (by rw [HSL.out.2]; exact hlt)]; rfl
              have l1 : vlt a.c a.s v.c v.s = false := by
                cases h : vlt a.c a.s v.c v.s with
                | false => rfl
                | true => rw [vlt_iff, ← ha, ← hv] at h; exact absurd (HLE.out.1 i) h
              have l2 : vlt b.c b.s a.c a.s = false := by
                cases h : vlt b.c b.s a.c a.s with
                | false => rfl
                | true => rw [vlt_iff, ← ha, ← hb] at h; exact absurd (HLE.out.2 i) h
              have HL1 := rless_b l1
              have HL2 := rless_b l2
              obtain ⟨a0, a1⟩ := (HVU13.out.below HBR.out HVU13.out.lt).vl_at hai
              obtain ⟨v0, v1⟩ := (HV13.out.below HBR.out HV13.out.lt).vl_at hvi
              obtain ⟨b0, b1⟩ := (HVL.out.below HBR.out HVL.out.lt).vl_at hbi
              have a0' := ext_cell a0
              have a1' := ext_cell a1
              have v0' := ext_cell v0
              have v1' := ext_cell v1
              have b0' := ext_cell b0
              have b1' := ext_cell b1
              clear a0 a1 v0 v1 b0 b1 ha hv hb hai hvi hbi l1 l2
              go_wp2_with fail
              refine wp_region_ext (by kernel_rfl) (by kernel_rfl) ?_
              repeat (go_big_quiet_step ((first | with_reducible exact calls_ext (HL1.out _) | with_reducible exact calls_ext (HL2.out _))))
              refine wpQuiet_nil ?_
              rintro _ ⟨u, rfl⟩
              clear a0' a1' v0' v1' b0' b1'
              go_wp2_with fail
              go_roundw
              case rel => exact ⟨i + 1, by omega, by go_num, HBR.out.trans (u.h.mono HBR.out.size)⟩
              case measure => simp [intOf]; omega
end Go.Proofs.Ytkeiakmfnammbaa
