/- The law OutsideRootEdges. -/
import Derived.Test.YtbalhkbpmahkgaaOMh
import Derived.Deep.DeepCutAuto
import Derived.Test.YtbalhkbpmahkgaaOMd
namespace Go.Proofs.Ytbalhkbpmahkgaa
open Go.RowKit

/-- What a hyperedge of the root costs. -/
theorem eth_root {es : List Ed} {U : Nat → Vl} {O : Nat → Int} {N r : Nat} {e : Ed} (hs : Sol es U) (ho : OSol es (inC U) r N O) (hr : r < N) (h0 : 0 ≤ e.cost) (hh : e.hd.toNat = r) : eth (inC U) O e = (ev U e).c := by
  rw [ev_c hs.nrm h0]
  unfold eth
  rw [hh, ho.pre.root r hr rfl, Int.zero_add]
set_option maxRecDepth 100000 in
set_option maxHeartbeats 8000000 in
theorem lawRoot_any (Z : Int) (ce B : Nat) (E : Option Addr) (es : List Ed) (root : Int) (w : World) (hE : HG w B E es.length es) (hB : B ≤ w.heap.size) : Calls Try.prog 7 #[.agg #[.int .i64 Z, .slice E es.length ce], .int .i64 root] w fun e w' => e = .returned (.bool true) ∧ Below w.heap.size w w' := by
  have HE := Lib.hid (hE.more hB)
  clear hE
  obtain ⟨M, hMM⟩ : ∃ M, es.length = M := ⟨_, rfl⟩
  rw [hMM] at HE ⊢
  have HMM := Lib.hid hMM
  clear hMM
  go_enter Try.func7, Try.ntmps7
  go_wp2_with fail
  obtain ⟨w0, hw0⟩ : ∃ w0, w.alloc (.cells #[.int .i64 Z, .slice E M ce] 24) = w0 := ⟨_, rfl⟩
  rw [hw0]
  obtain ⟨bh, hbh⟩ : ∃ bh, w.heap.size = bh := ⟨_, rfl⟩
  have HKH0 : Hid (Blk w0 bh 24 #[.int .i64 Z, .slice E M ce]) := by rw [← hw0]; exact Blk.new' w _ _ hbh
  have HB0 : Hid (Below w.heap.size w w0) := by rw [← hw0]; exact (Below.refl _ _).alloc (Nat.le_refl _) _
  try rw [hbh]
  have HBH := Lib.hid hbh
  clear hw0 hbh
  refine (awake_any w0).mono ?_
  rintro e w1 ⟨rfl, hb1⟩
  have HKH1 := Lib.hid (HKH0.out.below hb1 HKH0.out.lt)
  have HB1 : Hid (Below w.heap.size w w1) := HB0.out.trans (hb1.mono HB0.out.size)
  clear hb1 HKH0 HB0
  have c0 : w1.cell? ⟨bh, 0, none⟩ = some (.int .i64 Z) := HKH1.out.cell 0
  have c1 : w1.cell? ⟨bh, 1, none⟩ = some (.slice E M ce) := HKH1.out.cell 1
  go_wp2_with fail
  have hs := small33_any w1 Z ce w.heap.size E es (by rw [HMM.out]; exact HE.out.below HB1.out) HB1.out.size
  rw [HMM.out] at hs
  refine hs.mono ?_
  rintro e w2 ⟨b, rfl, hb, hbw⟩
  have HBB := Lib.hid hb
  have HKH2 := Lib.hid (HKH1.out.below hbw HKH1.out.lt)
  have HB2 : Hid (Below w.heap.size w w2) := HB1.out.trans (hbw.mono HB1.out.size)
  clear hs hb hbw HKH1 HB1 c0 c1
  cases b with
  | false =>
    go_wp2_with fail
    go_ret
    exact ⟨rfl, HB2.out⟩
  | true =>
  obtain ⟨N, hZ, hN1, hN2, hM, hok, V0, hsol0, hsz0⟩ := HBB.out rfl
  rw [HMM.out] at hM
  subst hZ
  have HOK := Lib.hid hok
  have HS0 := Lib.hid (And.intro hsol0 hsz0)
  have c0 : w2.cell? ⟨bh, 0, none⟩ = some (.int .i64 N) := HKH2.out.cell 0
  have c1 : w2.cell? ⟨bh, 1, none⟩ = some (.slice E M ce) := HKH2.out.cell 1
  clear hok HBB hsol0 hsz0
  have H9 : Hid (∀ w9, Below w2.heap.size w2 w9 → w9.cell? ⟨bh, 0, none⟩ = some (.int .i64 N) ∧ w9.cell? ⟨bh, 1, none⟩ = some (.slice E M ce) ∧ Below w2.heap.size w2 w9) := fun w9 h => by
    have K := HKH2.out.below h HKH2.out.lt
    exact ⟨K.cell 0, K.cell 1, h⟩
  rcases root_ways N root with h1 | ⟨h1, h2⟩ | ⟨r, rfl, hr⟩
  case inl =>
    go_wp2_with fail
    go_ret
    exact ⟨rfl, HB2.out⟩
  case inr.inl =>
    go_wp2_with fail
    go_ret
    exact ⟨rfl, HB2.out⟩
  have h1 : decide ((r : Int) < 0) = false := by simp
  have h2 : decide ((N : Int) ≤ (r : Int)) = false := by simp; omega
  have h2' : decide (N ≤ r) = false := by simp; omega
  have HCPO : Hid (∀ w9, Below w2.heap.size w2 w9 → Calls Try.prog 13 #[.agg #[.int .i64 N, .slice E M ce], .int .i64 (r : Nat)] w9 (RetL N (IsOut es (r : Nat) N) w9)) := fun w9 h9 => by
    have hb9 : Below w.heap.size w w9 := HB2.out.trans (h9.mono HB2.out.size)
    have h := poutside_any w9 N ce w.heap.size E es (r : Nat) (by rw [HMM.out]; exact HE.out.below hb9) hb9.size HOK.out hN2 hN1 (by rw [HMM.out]; exact hM)
    rw [HMM.out] at h
    exact h
  have HCPE : Hid (∀ w9, Below w2.heap.size w2 w9 → Calls Try.prog 17 #[.agg #[.int .i64 N, .slice E M ce], .int .i64 (r : Nat)] w9 (RetL M (IsEth es (r : Nat) N) w9)) := fun w9 h9 => by
    have hb9 : Below w.heap.size w w9 := HB2.out.trans (h9.mono HB2.out.size)
    have h := pedge_any w9 N ce w.heap.size E es (r : Nat) (by rw [HMM.out]; exact HE.out.below hb9) hb9.size HOK.out hN2 hN1 (by rw [HMM.out]; exact hM)
    rw [HMM.out] at h
    exact h
  have B8 : Below w2.heap.size w2 w2.drew := (Below.refl _ _).drew
  go_upto_region 5 with fail
  clear c0 c1
  go_cut [5, 6] (fun x5 x6 wx => ∃ (g3 g4 : Nat) (l3 l4 : List Int), x5 = .slice (some ⟨g3, 0, none⟩) N N ∧ x6 = .slice (some ⟨g4, 0, none⟩) M M ∧ l3.length = N ∧ l4.length = M ∧ Blk wx g3 3 (ints l3).toArray ∧ Blk wx g4 3 (ints l4).toArray ∧ (IsOut es (r : Nat) N) l3 ∧ (IsEth es (r : Nat) N) l4 ∧ Below w2.heap.size w2 wx)
  case first =>
    go_region_held3 (fun w9 => w9.cell? ⟨bh, 0, none⟩ = some (.int .i64 N) ∧ w9.cell? ⟨bh, 1, none⟩ = some (.slice E M ce) ∧ Below w2.heap.size w2 w9)
      (first | exact H9.out _ B8 | exact H9.out _ X4 | exact H9.out _ X3)
      (first
        | (go_at_call 13; (with_reducible refine (HCPO.out _ B8).mono ?_); rintro e w3 ⟨g3, l3, rfl, hl3, kk, ho3, hg, hb⟩; have X3 : Below w2.heap.size w2 w3 := B8.trans (hb.mono B8.size); have K33 := Lib.hid kk; have L3 := Lib.hid (And.intro hl3 ho3); clear hl3 kk ho3 hg hb)
        | (go_at_call 17; (with_reducible refine (HCPE.out _ X3).mono ?_); rintro e w4 ⟨g4, l4, rfl, hl4, kk, ho4, hg, hb⟩; have X4 : Below w2.heap.size w2 w4 := X3.trans (hb.mono X3.size); have K44 := Lib.hid kk; have L4 := Lib.hid (And.intro hl4 ho4); have K34 := Lib.hid (K33.out.below hb K33.out.lt); clear hl4 kk ho4 hg hb))
    all_goals
      go_wp2_with fail
      go_meet
      exact ⟨g3, g4, l3, l4, rfl, rfl, L3.out.1, L4.out.1, K34.out, K44.out, L3.out.2, L4.out.2, X4⟩
  case rest =>
  obtain ⟨g3, g4, l3, l4, rfl, rfl, hl3, hl4, K3, K4, ho3, ho4, X4⟩ := hcut
  rename World => w4
  have HL3 := Lib.hid (And.intro hl3 (And.intro K3 ho3))
  have HL4 := Lib.hid (And.intro hl4 (And.intro K4 ho4))
  have HKH4 := Lib.hid (HKH2.out.below X4 HKH2.out.lt)
  have HB4 : Hid (Below w.heap.size w w4) := HB2.out.trans (X4.mono HB2.out.size)
  clear hl3 hl4 K3 K4 ho3 ho4 X4 B8 H9 HKH2 HB2
  have c0 : w4.cell? ⟨bh, 0, none⟩ = some (.int .i64 N) := HKH4.out.cell 0
  have c1 : w4.cell? ⟨bh, 1, none⟩ = some (.slice E M ce) := HKH4.out.cell 1
  clear h1 h2 h2'
  obtain ⟨U, O, hsol, hO, hEl⟩ := HL4.out.2.2
  have HSO := Lib.hid (And.intro hsol hO)
  have HEL := Lib.hid hEl
  have HR := Lib.hid hr
  obtain ⟨l3r, hl3r⟩ : ∃ z, l3[r]? = some z := ⟨_, List.getElem?_eq_getElem (by rw [HL3.out.1]; exact hr)⟩
  obtain rfl : l3r = 0 := by
    obtain ⟨U', hs', ho'⟩ := HL3.out.2.2
    have := ho'.pre.root r hr rfl
    rw [gi_at hl3r] at this
    exact this
  have x0 := HL3.out.2.1.gint hl3r
  have hq1 : ((N : Int) != (N : Int)) = false := by simp
  have hq2 : ((M : Int) != (M : Int)) = false := by simp
  clear hsol hO hEl hl3r
  go_wp2_with fail
  clear x0 hq1 hq2
  have hs := rsolve_any w4 N ce w.heap.size E es (by rw [HMM.out]; exact HE.out.below HB4.out) HB4.out.size HOK.out hN2 (by rw [HMM.out]; exact hM)
  rw [HMM.out] at hs
  refine hs.mono ?_
  rintro e w5 ⟨va, ea, V, rfl, hVl, KV, _, hsolV, _, _, hb5⟩
  have hUV : U = gv V := HSO.out.1.uniq hsolV
  have HUV := Lib.hid hUV
  have HKV := Lib.hid (And.intro KV hVl)
  have HKH5 := Lib.hid (HKH4.out.below hb5 HKH4.out.lt)
  have HK45 := Lib.hid (HL4.out.2.1.below hb5 HL4.out.2.1.lt)
  have HB5 : Hid (Below w.heap.size w w5) := HB4.out.trans (hb5.mono HB4.out.size)
  have HMIN : Hid ((inC U r) ≤ 1099511627776) := (inC_ord HSO.out.1.nrm r).2
  clear hs hUV KV hVl hsolV hb5 HKH4 HB4 c0 c1
  go_wp2_with fail
  go_loop [9, 10] (fun x y => ∃ (k : Nat) (s : Int), k ≤ M ∧ y = .int .i64 k ∧ x = .int .i64 s ∧ Hid (inC U r ≤ s ∧ s ≤ 1099511627776 ∧ ∀ i e, i < k → es[i]? = some e → e.hd.toNat = r → s ≤ (ev U e).c)) (fun _ y => M - (intOf y).toNat)
  case atStart => exact ⟨0, 1099511627776, Nat.zero_le _, rfl, rfl, ⟨HMIN.out, Int.le_refl _, fun i e hi => absurd hi (Nat.not_lt_zero _)⟩⟩
  case round =>
    obtain ⟨k, s, hk, rfl, rfl, HI⟩ := hrel
    by_cases hlk : k < M
    case neg =>
      have hlkD : decide (k < M) = false := by simp [hlk]
      obtain rfl : M = k := by omega
      obtain ⟨v, hv⟩ : ∃ v, V[r]? = some v := ⟨_, List.getElem?_eq_getElem (by rw [HKV.out.2]; exact hr)⟩
      obtain ⟨v0, _⟩ := HKV.out.1.vl_at hv
      have hgv : inC U r = v.c := by unfold inC; rw [HUV.out, gv, hv]; rfl
      obtain rfl : s = v.c := by
        obtain ⟨g1, g2, g3⟩ := HI.out
        rw [hgv] at g1
        by_cases hf : v.c < 1099511627776
        · obtain ⟨e, he, he1, he2⟩ := HSO.out.1.attained HOK.out (i := r) (by show inC U r < _; rw [hgv]; exact hf)
          obtain ⟨i, hi⟩ := List.getElem?_of_mem he
          have hil : i < M := by have := (List.getElem?_eq_some_iff.1 hi).1; have := HMM.out; omega
          have g4 := g3 i e hil hi he1
          rw [att_iff] at he2
          rw [he2.2, he1] at g4
          have : (U r).c = v.c := hgv
          omega
        · omega
      clear hv hgv
      go_wp2_with fail
      go_ret
      exact ⟨rfl, HB5.out⟩
    case pos =>
      have hlkD : decide (k < M) = true := by simp [hlk]
      have c1 : w5.cell? ⟨bh, 1, none⟩ = some (.slice E M ce) := HKH5.out.cell 1
      obtain ⟨b', off, e, hE', hb', he, p0, p1, p2, p3, p4, hRt⟩ := (HE.out.below HB5.out).at_ hlk
      have hoke := HOK.out e (List.mem_of_getElem? he)
      have HOKE := Lib.hid hoke
      have HEk := Lib.hid he
      obtain ⟨v, hv⟩ := Int.eq_ofNat_of_zero_le hoke.hd.1
      rw [hv] at p0
      have HHD : Hid (e.hd.toNat = v) := by rw [hv]; exact Lib.hid (Int.toNat_natCast v)
      obtain ⟨z, hz⟩ : ∃ z, eth (inC U) O e = z := ⟨_, rfl⟩
      have hlz := HEL.out k e he
      rw [hz] at hlz
      have q0 := HK45.out.gint hlz
      have HZ := Lib.hid hz
      rw [hE'] at c1
      clear hRt he hoke hv hE' hlz hz p1 p2 p3 p4
      by_cases hvr : v = r
      case pos => as_aux_lemma =>
        have hD1 : ((v : Int) == (r : Int)) = true := by simp [hvr]
        have hD2 : decide (v = r) = true := by simp [hvr]
        have hD3 : (v == r) = true := by simp [hvr]
        have HI2 : Hid (inC U r ≤ min s z ∧ min s z ≤ 1099511627776 ∧ ∀ i e, i < k + 1 → es[i]? = some e → e.hd.toNat = r → min s z ≤ (ev U e).c) := by
          obtain ⟨g1, g2, g3⟩ := HI.out
          have hz1 := HSO.out.2.edge hr HSO.out.1.nrm HSO.out.1.pre (fun e he => (HOK.out e he).cost.1) (List.mem_of_getElem? HEk.out)
          rw [HZ.out] at hz1
          have hz2 := eth_root HSO.out.1 HSO.out.2 hr HOKE.out.cost.1 (by rw [HHD.out]; exact hvr)
          rw [HZ.out] at hz2
          refine ⟨by omega, by omega, fun i e' hi he' hh => ?_⟩
          by_cases hik : i = k
          · subst hik
            rw [HEk.out] at he'
            injection he' with he'
            subst he'
            omega
          · have := g3 i e' (by omega) he' hh
            omega
        clear hvr
        go_wp2_with fail
        go_round
        case rel => exact ⟨k + 1, _, by omega, by go_num, rfl, HI2⟩
        case measure => simp [intOf]; omega
      case neg => as_aux_lemma =>
        have hD1 : ((v : Int) == (r : Int)) = false := by simp; omega
        have hD2 : decide (v = r) = false := by simp [hvr]
        have hD3 : (v == r) = false := by simp [hvr]
        have HI2 : Hid (inC U r ≤ s ∧ s ≤ 1099511627776 ∧ ∀ i e, i < k + 1 → es[i]? = some e → e.hd.toNat = r → s ≤ (ev U e).c) := by
          obtain ⟨g1, g2, g3⟩ := HI.out
          refine ⟨g1, g2, fun i e' hi he' hh => ?_⟩
          by_cases hik : i = k
          · subst hik
            rw [HEk.out] at he'
            injection he' with he'
            subst he'
            rw [HHD.out] at hh
            exact absurd hh hvr
          · exact g3 i e' (by omega) he' hh
        clear hvr
        go_wp2_with fail
        go_round
        case rel => exact ⟨k + 1, s, by omega, by go_num, rfl, HI2⟩
        case measure => simp [intOf]; omega
end Go.Proofs.Ytbalhkbpmahkgaa

namespace Go.Proofs.Ytbalhkbpmahkgaa
open Go.ChangeShapes Go.WideShapes Go.ChangeAt Go.RowKit

set_option maxRecDepth 100000 in
theorem lawOuLRoot_lifted (os : Os) (started : os.Started) (H : Type) (enc : TypeId × Value → H) :
    ReturnsInHanded {} Try.checked os 7 .any (Rows.outsideRootEdgesSpec.pre6 enc Try.prog Try.f7 Rows.outsideRootEdgesRow.domain false)
      (Rows.outsideRootEdgesSpec.post enc Try.prog Try.f7 false true false false) := by
  refine returnsInHanded_of_change (C := Try.checked) Try.own started (by kernel_rfl) Try.func7
    (ChangeSpec.witness6 (enc := enc) (C := Try.checked) false ⟨#[], #[.agg #[.int .i64 0, .slice none 0 0], .int .i64 0], []⟩ 8 (by kernel_rfl) (by kernel_rfl) (by kernel_rfl) (by kernel_rfl)) ?_
  intro W base args ds gs before hval0 hW hcnd _
  have hval : ∀ (j : Nat) t v, Try.f7.params[j]? = some t → args[j]? = some v → Value.okWide Try.prog W .any base t v := hval0
  have hW' := hW
  obtain ⟨p, q, hA0, hV, rfl, hfz, hnd⟩ := hW
  have hA : DataW.TrodAll enc Try.prog W 0 (fun _ => true) true Try.f7.params.toList args.toList ds p := hA0
  rw [Try.params7] at hA hval
  obtain ⟨v0, v1, d0, d1, p0, p1, rfl, rfl, rfl, h0, h1⟩ := trodAll_two hA
  obtain ⟨rfl, rfl⟩ := trodVars_none hV
  obtain ⟨Z0, A0, c0, es0, rfl, hg0, hec0, hc0⟩ := open_hg (hval 0 24 v0 rfl rfl) h0
  obtain ⟨x1, rfl, _, _, wx1⟩ := open_int Try.underlying3 (hval 1 3 v1 rfl rfl) h1
  refine (lawRoot_any Z0 c0 W.heap.size A0 es0 x1 W hg0 (Nat.le_refl _)).mono fun e W' ⟨he, hb⟩ => ?_
  subst he
  exact ⟨_, rfl, law_post (by kernel_rfl) (by kernel_rfl) rfl (by kernel_rfl) hW' rfl rfl rfl hb⟩

theorem lawOuLRoot_holds : Rows.OutsideRootEdgesSaid :=
  OpenClaim.holds_of_wide 7 Try.f7 rfl rfl rfl rfl rfl rfl rfl ⟨rfl, rfl, rfl, rfl, rfl⟩ rfl rfl rfl rfl rfl (by kernel_rfl) Try.func7 (by kernel_rfl)
    (of_decide_eq_true (by kernel_rfl)) (by unfold Func.isWrapper; first | (rw [if_pos (by decide +kernel)]; kernel_rfl) | (rw [if_neg (by decide +kernel)]; exact ⟨rfl, rfl⟩))
    (fun os started H enc _ => lawOuLRoot_lifted os started H enc)
#print axioms lawOuLRoot_holds
end Go.Proofs.Ytbalhkbpmahkgaa
