/- The law KnuthScale. -/
import Derived.Test.YtkeiakmfnammbaaKnScale
import Derived.Test.YtkeiakmfnammbaaKnLLess
import Derived.Test.YtkeiakmfnammbaaOpen
namespace Go.Proofs.Ytkeiakmfnammbaa
open Go.RowKit

set_option maxRecDepth 100000 in
set_option maxHeartbeats 8000000 in
theorem lawScale_any (Z : Int) (ce B : Nat) (E : Option Addr) (es : List Ed) (x : Int) (w : World) (hE : HG w B E es.length es) (hB : B ≤ w.heap.size) (hce : es.length ≤ ce) (hcm : ce ≤ maxLen) (hx : 0 ≤ x ∧ x ≤ 255) : Calls Try.prog 11 #[.agg #[.int .i64 Z, .slice E es.length ce], .int .u8 x] w fun e w' => e = .returned (.bool true) ∧ Below w.heap.size w w' := by
  have HE := Lib.hid (hE.more hB)
  unfold maxLen at hcm
  obtain ⟨k, rfl⟩ := Int.eq_ofNat_of_zero_le hx.1
  have hk255 : k ≤ 255 := by omega
  clear hx
  clear hE
  obtain ⟨M, hMM⟩ : ∃ M, es.length = M := ⟨_, rfl⟩
  rw [hMM] at HE hce ⊢
  have HMM := Lib.hid hMM
  clear hMM
  go_enter Try.func11, Try.ntmps11
  go_wp2_with fail
  obtain ⟨w1, hw1⟩ : ∃ w1, w.alloc (.cells #[.int .i64 Z, .slice E M ce] 34) = w1 := ⟨_, rfl⟩
  rw [hw1]
  obtain ⟨bh, hbh⟩ : ∃ bh, w.heap.size = bh := ⟨_, rfl⟩
  have HKH1 : Hid (Blk w1 bh 34 #[.int .i64 Z, .slice E M ce]) := by rw [← hw1]; exact Blk.new' w _ _ hbh
  have HB1 : Hid (Below w.heap.size w w1) := by rw [← hw1]; exact (Below.refl _ _).alloc (Nat.le_refl _) _
  try rw [hbh]
  have HBH := Lib.hid hbh
  clear hw1 hbh
  have hs := bounded_any w1 Z ce w.heap.size E es (by rw [HMM.out]; exact HE.out.below HB1.out) HB1.out.size
  rw [HMM.out] at hs
  refine hs.mono ?_
  rintro e w2 ⟨b, rfl, hb, hbw⟩
  have HBB := Lib.hid hb
  have HKH2 := Lib.hid (HKH1.out.below hbw HKH1.out.lt)
  have HB2 : Hid (Below w.heap.size w w2) := HB1.out.trans (hbw.mono HB1.out.size)
  clear hs hb hbw HKH1 HB1
  cases b with
  | false =>
    go_wp2_with fail
    refine (awake_any _).mono ?_
    rintro e wa ⟨rfl, hba⟩
    go_wp2_with fail
    go_ret
    exact ⟨rfl, HB2.out.trans (hba.mono HB2.out.size)⟩
  | true =>
  obtain ⟨N, hZ, hN1, hN2, hM, hok, V0, hsol0, hsz⟩ := HBB.out rfl
  rw [HMM.out] at hM
  subst hZ
  have HOK := Lib.hid hok
  have HS0 := Lib.hid (And.intro hsol0 hsz)
  have c0 : w2.cell? ⟨bh, 0, none⟩ = some (.int .i64 N) := HKH2.out.cell 0
  have c1 : w2.cell? ⟨bh, 1, none⟩ = some (.slice E M ce) := HKH2.out.cell 1
  clear hok HBB hsol0 hsz
  obtain ⟨i0, hi0, hz0, hz1, hz2⟩ := info_parts infoHe
  by_cases hk0 : k = 0
  case pos =>
    have hz : ((k : Int) == 0) = true := by rw [hk0]; rfl
    have hz' : decide (k = 0) = true := by simp [hk0]
    clear hk0
    go_wp2_with fail
    refine (awake_any _).mono ?_
    rintro e wa ⟨rfl, hba⟩
    go_wp2_with fail
    go_ret
    exact ⟨rfl, HB2.out.trans (hba.mono HB2.out.size)⟩
  case neg =>
  have hz : ((k : Int) == 0) = false := by rw [beq_eq_false_iff_ne]; omega
  have hz' : decide (k = 0) = false := by simp [hk0]
  have hk0' : ¬ k = 0 := hk0
  have v1 : IntKind.i64.wrap (k : Int) = (k : Int) := IntWalk.i64_in _ (by omega)
  have hk1 : (1 : Int) ≤ (k : Int) := by omega
  have HK1 := Lib.hid hk1
  go_wp2_with fail
  clear hz hz' hk0' v1 c0 c1 hk1
  go_loop [6] (fun x => ∃ i : Nat, i ≤ M ∧ x = .int .i64 i ∧ Hid (∀ e ∈ es.take i, e.cost ≤ 1000)) (fun x => M - (intOf x).toNat)
  case atStart => exact ⟨0, Nat.zero_le _, rfl, fun e he => by simp at he⟩
  case round =>
    obtain ⟨i, hi, rfl, HC⟩ := hrel
    have c1 : w2.cell? ⟨bh, 1, none⟩ = some (.slice E M ce) := HKH2.out.cell 1
    by_cases hlt : i < M
    case pos =>
      have hltD : decide (i < M) = true := by simp [hlt]
      obtain ⟨b', off, e, hE', hb', he, p0, p1, p2, p3, p4, hR⟩ := (HE.out.below HB2.out).at_ hlt
      rw [hE'] at c1
      have HEk := Lib.hid he
      clear hE' he hR
      by_cases h4 : 1000 < e.cost
      case pos =>
        have h4D : decide (1000 < e.cost) = true := by simp [h4]
        clear h4
        go_wp2_with fail
        refine (awake_any _).mono ?_
        rintro e wa ⟨rfl, hba⟩
        go_wp2_with fail
        go_ret
        exact ⟨rfl, HB2.out.trans (hba.mono HB2.out.size)⟩
      case neg =>
        have h4D : decide (1000 < e.cost) = false := by simp; omega
        have H4 := Lib.hid h4
        clear h4
        go_wp2_with fail
        go_round
        case rel => exact ⟨i + 1, by omega, by go_num, fun u hu => by
          rw [List.take_add_one, HEk.out] at hu
          rcases List.mem_append.1 hu with h | h
          · exact HC.out u h
          · simp at h; rw [h]; have := H4.out; omega⟩
        case measure => simp [intOf]; omega
    case neg =>
      have hltD : decide (i < M) = false := by simp [hlt]
      obtain rfl : M = i := by omega
      have HCC : Hid (∀ e ∈ es, e.cost ≤ 1000) := fun e he => HC.out e (by rw [← HMM.out, List.take_length]; exact he)
      have c0 : w2.cell? ⟨bh, 0, none⟩ = some (.int .i64 N) := HKH2.out.cell 0
      clear HC hlt hi
      go_wp2_with fail
      have hs := solve_any w2 N ce w.heap.size E es (by rw [HMM.out]; exact HE.out.below HB2.out) HB2.out.size HOK.out hN2 (by rw [HMM.out]; exact hM)
      rw [HMM.out] at hs
      refine hs.mono ?_
      rintro e w3 ⟨va, ea, V, rfl, hVl, KV, KE, hsol, _, _, hbw⟩
      have HV3 := Lib.hid KV
      have HA3 := Lib.hid KE
      have HS := Lib.hid (And.intro hsol hVl)
      have HKH3 := Lib.hid (HKH2.out.below hbw HKH2.out.lt)
      have HB3 : Hid (Below w.heap.size w w3) := HB2.out.trans (hbw.mono HB2.out.size)
      clear hs hsol hVl KV KE hbw
      have c0' : w3.cell? ⟨bh, 0, none⟩ = some (.int .i64 N) := HKH3.out.cell 0
      have c1' : w3.cell? ⟨bh, 1, none⟩ = some (.slice E M ce) := HKH3.out.cell 1
      have hqN : ((N : Int) != (N : Int)) = false := by simp
      clear c0 c1
      go_wp2_with fail
      clear hqN
      go_loop [9] (fun x => ∃ i : Nat, i ≤ N ∧ x = .int .i64 i ∧ Hid (∀ n, n < i → (gv V n).c < 1099511627776 → (gv V n).c < 4294967296)) (fun x => N - (intOf x).toNat)
      case atStart => exact ⟨0, Nat.zero_le _, rfl, fun n hn => absurd hn (Nat.not_lt_zero _)⟩
      case round =>
        obtain ⟨i, hi, rfl, HC⟩ := hrel
        by_cases hlt : i < N
        case pos =>
          have hltD : decide (i < N) = true := by simp [hlt]
          obtain ⟨v, hv⟩ : ∃ v, gv V i = v := ⟨_, rfl⟩
          have hvi : V[i]? = some v := by rw [← hv, gv, List.getElem?_eq_getElem (by rw [HS.out.2]; exact hlt)]; rfl
          obtain ⟨v0, v1⟩ := HV3.out.vl_at hvi
          have HGV := Lib.hid hv
          clear hv hvi
          have hw : decide (v.c < 1099511627776) = false ∨ (decide (v.c < 1099511627776) = true ∧ decide (4294967296 ≤ v.c) = true) ∨ (decide (v.c < 1099511627776) = true ∧ decide (4294967296 ≤ v.c) = false) := by
            cases decide (v.c < 1099511627776) <;> cases decide (4294967296 ≤ v.c) <;> simp
          rcases hw with h1 | ⟨h1, h2⟩ | ⟨h1, h2⟩
          case inr.inl =>
            go_wp2_with fail
            refine (awake_any _).mono ?_
            rintro e wa ⟨rfl, hba⟩
            go_wp2_with fail
            go_ret
            exact ⟨rfl, HB3.out.trans (hba.mono HB3.out.size)⟩
          all_goals
            have HH1 := Lib.hid h1
            first
              | have HH2 := Lib.hid h2
              | have HH2 : Hid True := trivial
            go_wp2_with fail
            go_round
            case rel => exact ⟨i + 1, by omega, by go_num, fun n hn hf => by
              by_cases hni : n = i
              · subst hni
                rw [HGV.out] at hf ⊢
                have h3 := HH1.out
                have h4 := HH2.out
                simp at h3 h4
                omega
              · exact HC.out n (by omega) hf⟩
            case measure => simp [intOf]; omega
        case neg =>
          have hltD : decide (i < N) = false := by simp [hlt]
          obtain rfl : N = i := by omega
          have HVB : Hid (∀ n, (gv V n).c < 1099511627776 → (k : Int) * (gv V n).c < 1099511627776) := fun n hf => by
            by_cases hn : n < N
            · have h1 := HC.out n hn hf
              have h2 := (HS.out.1.nrm n).1.1
              have h3 : (k : Int) * (gv V n).c ≤ 255 * (gv V n).c := Int.mul_le_mul_of_nonneg_right (by omega) h2
              omega
            · rw [gv, List.getElem?_eq_none (by rw [HS.out.2]; omega)] at hf
              exact absurd hf (by decide)
          clear HC hlt hi
          have HEO : Hid (∀ u ∈ eds es, u.oneCell' = true) := fun u hu => eds_one hu
          go_upto_region 18 with fail
          obtain ⟨w4, hw4⟩ : ∃ w4, w3.alloc (.cells #[.int .i64 N, .slice E M ce] 34) = w4 := ⟨_, rfl⟩
          obtain ⟨g8, hg8⟩ : ∃ g8, w3.heap.size = g8 := ⟨_, rfl⟩
          have HK8 : Hid (Blk w4 g8 34 #[.int .i64 N, .slice E M ce]) := by rw [← hw4]; exact Blk.new' w3 _ _ hg8
          have hx4 : Below w3.heap.size w3 w4 := by rw [← hw4]; exact (Below.refl _ _).alloc (Nat.le_refl _) _
          have HKH4 := Lib.hid (HKH3.out.below hx4 HKH3.out.lt)
          have HV4 := Lib.hid (HV3.out.below hx4 HV3.out.lt)
          have HA4 := Lib.hid (HA3.out.below hx4 HA3.out.lt)
          have HB4 : Hid (Below w.heap.size w w4) := HB3.out.trans (hx4.mono HB3.out.size)
          have HRE := Lib.hid ((HE.out.below HB4.out).1.more HB4.out.size)
          have HG8 : Hid (w.heap.size ≤ g8) := by have := HB3.out.size; show w.heap.size ≤ g8; omega
          have HBG : Hid (bh ≠ g8) := by have := HKH3.out.lt; show bh ≠ g8; omega
          rw [hw4]
          try rw [hg8]
          clear hw4 hg8 hx4 HKH3 HV3 HA3 HB3 c0' c1'
          have hg8l := HK8.out.lt
          have c1 : w4.cell? ⟨bh, 1, none⟩ = some (.slice E M ce) := HKH4.out.cell 1
          have HO0 : Hid ((w4.alloc (.cells #[] 43)).ownsRow w4.heap.size 43 5 (.slice (some ⟨w4.heap.size, 0, none⟩) 0 0) 0 []) :=
            ⟨rfl, .inr ⟨w4.heap.size, 0, #[], rfl, Nat.le_refl _, Blk.new w4 _ _, Nat.le_refl _, by unfold maxLen; omega, rfl, rfl⟩⟩
          have c1a : (w4.alloc (.cells #[] 43)).cell? ⟨bh, 1, none⟩ = some (.slice E M ce) := (HKH4.out.alloc _).cell 1
          have HREa := Lib.hid (HRE.out.below ((Below.refl w4.heap.size w4).alloc (Nat.le_refl _) (.cells #[] 43)))
          have hzb : w4.heap.size ≤ (w4.alloc (.cells #[] 43)).heap.size := by simp
          go_wp2_with (at_builtin; go_must (refine wpList_append_any _ (by rfl) _ _ 32 (by rfl) w4.heap.size 43 i0 (.agg #[.int .i64 0, .slice none 0 0, .int .i64 0, .int .i64 0, .int .i64 0]) 5 56 Try.underlying32 hi0 hz0 hz1 hz2 rfl (by decide) (.slice (some ⟨w4.heap.size, 0, none⟩) 0 0) 0 [] (by rfl) HO0.out w4.heap.size E M ce (eds es) (by rfl) HREa.out HEO.out (by unfold maxLen; omega) (by omega) hzb ?_; intro v5 w5 hown5 hgrow5 hat5; obtain ⟨A5, cA, rfl, hc5, _⟩ := own_form hown5; simp only [Nat.zero_add, List.nil_append] at hown5; simp only [Nat.zero_add]; have HOW5 := Lib.hid hown5; have hx5 : Below w4.heap.size w4 w5 := ((Below.refl _ w4).alloc (Nat.le_refl _) _).grown hgrow5 (by simp) (fun q hq => (by have h2 : w4.heap.size = q := (by simpa [Value.ownBlock] using hq); omega)); have HX5 := Lib.hid hx5; have f81 : w5.cell? ⟨g8, 1, none⟩ = some (.slice E M ce) := (HK8.out.below hx5 hg8l).cell 1; have z81 := (HK8.out.below hx5 hg8l).frozen 1; clear hown5 hgrow5 hat5 hx5 hc5))
          obtain ⟨w6, hw6⟩ : ∃ w6, w5.setCell ⟨g8, 1, none⟩ (.slice A5 M cA) = w6 := ⟨_, rfl⟩
          have hsz5 := HX5.out.size
          have HK8a : Hid (Blk w6 g8 34 #[.int .i64 N, .slice A5 M cA]) := by
            rw [← hw6]
            have := (HK8.out.below HX5.out hg8l).set_ 1 (.slice A5 M cA)
            simp at this
            exact this
          have hbg : bh ≠ g8 := HBG.out
          have H46 : Hid (w4.heap.size ≤ w6.heap.size) := by
            have h := HX5.out.size
            rw [← hw6]
            show w4.heap.size ≤ _
            simpa [World.setCell] using h
          have HKHa : Hid (Blk w6 bh 34 #[.int .i64 N, .slice E M ce]) := by rw [← hw6]; exact (HKH4.out.below HX5.out HKH4.out.lt).far (p := ⟨g8, 1, none⟩) hbg _
          have HVa : Hid (Blk w6 va 23 (vls V).toArray) := by rw [← hw6]; exact (HV4.out.below HX5.out HV4.out.lt).far (p := ⟨g8, 1, none⟩) (Blk.ne_ HV4.out HK8.out (by decide)) _
          have HAa : Hid (Blk w6 ea 3 (ints (chs (gv V) es N)).toArray) := by rw [← hw6]; exact (HA4.out.below HX5.out HA4.out.lt).far (p := ⟨g8, 1, none⟩) (Blk.ne_ HA4.out HK8.out (by decide)) _
          have HBa : Hid (Below w.heap.size w w6) := by rw [← hw6]; exact (HB4.out.trans (HX5.out.mono HB4.out.size)).setCell (p := ⟨g8, 1, none⟩) HG8.out _
          have HOa : Hid (w6.ownsRow w4.heap.size 43 5 (.slice A5 M cA) M (eds (scl k es 0))) := by
            rw [← hw6, scl_zero]
            exact own_touch HOW5.out (F := fun k => k = g8) ((Touch.refl (fun k => k = g8) w5).setCell (p := ⟨g8, 1, none⟩) (.inl rfl) _) (fun q hq e => by have := own_ge HOW5.out hq; omega)
          have HLT : Hid (g8 < w4.heap.size ∧ bh < w4.heap.size ∧ va < w4.heap.size ∧ ea < w4.heap.size ∧ w.heap.size ≤ w4.heap.size) := ⟨hg8l, HKH4.out.lt, HV4.out.lt, HA4.out.lt, HB4.out.size⟩
          rw [hw6]
          clear hw6 HOW5 f81 z81 hsz5 c1 c1a HO0 HREa hzb HK8 HKH4 HV4 HA4 HB4 HX5 hg8l HRE hbg
          go_loopw [11] (fun x wr => ∃ i : Nat, i ≤ M ∧ x = .int .i64 i ∧ Hid (wr.ownsRow w4.heap.size 43 5 (.slice A5 M cA) M (eds (scl k es i))) ∧ Hid (Below w4.heap.size w6 wr)) (fun x _ => M - (intOf x).toNat)
          case atStart => exact ⟨0, Nat.zero_le _, rfl, HOa, Below.refl _ _⟩
          case round =>
            obtain ⟨i, hi, rfl, HO, HBR⟩ := hrel
            have h46 := H46.out
            have HK8r := Lib.hid (HK8a.out.below HBR.out HLT.out.1)
            have HBr : Hid (Below w.heap.size w wr) := HBa.out.trans (HBR.out.mono HLT.out.2.2.2.2)
            have c81 : wr.cell? ⟨g8, 1, none⟩ = some (.slice A5 M cA) := HK8r.out.cell 1
            by_cases hlt : i < M
            case pos =>
              have hltD : decide (i < M) = true := by simp [hlt]
              obtain ⟨gr, cur5, hA5, hgr5, hMc, hgrb⟩ := own_form' HO.out (by omega)
              subst hA5
              obtain ⟨e, he⟩ : ∃ e, es[i]? = some e := ⟨_, List.getElem?_eq_getElem (by have := HMM.out; omega)⟩
              have HEk := Lib.hid he
              have heok := HOK.out e (List.mem_of_getElem? he)
              have hc1000 := HCC.out e (List.mem_of_getElem? he)
              have hrow : wr.cell? ⟨gr, i * 5 + 2, none⟩ = some (.int .i64 e.cost) := by
                obtain ⟨bb, oo, h1, _, h2⟩ := (Reads.of_own HO.out).2 (by omega)
                injection h1 with h1
                injection h1 with e1 e2 _
                subst e1 e2
                have := h2 (i * 5 + 2) (.int .i64 e.cost) (by rw [eds_at _ i _ 2 (scl_at he) (by omega)]; rfl)
                simpa using this
              have hrz : wr.frozen? ⟨gr, i * 5 + 2, none⟩ = false := Blk.frozen hgr5 _
              have hp0 : 0 ≤ (k : Int) * e.cost := Int.mul_nonneg (by omega) heok.cost.1
              have hp1 : (k : Int) * e.cost ≤ 255 * e.cost := Int.mul_le_mul_of_nonneg_right (by omega) heok.cost.1
              obtain ⟨p, hp⟩ : ∃ p, (k : Int) * e.cost = p := ⟨_, rfl⟩
              have u1 : IntKind.i64.wrap ((k : Int) * e.cost) = p := by rw [hp]; exact IntWalk.i64_in _ (by omega)
              have hset : (eds (scl k es i)).set (i * 5 + 2) (.int .i64 p) = eds (scl k es (i + 1)) := by rw [eds_wc _ i e p (scl_at he), ← hp, scl_next he]
              have HSET := Lib.hid hset
              have hgw : w.heap.size ≤ gr := Nat.le_trans HLT.out.2.2.2.2 hgrb
              clear he heok hc1000 hp hp0 hp1 hset hgr5
              go_upto_region 22 with fail
              go_region
              go_wp2_with fail
              go_roundw
              case rel => exact ⟨i + 1, by omega, by go_num, by rw [← HSET.out]; exact own_below (own_setCell HO.out (i * 5 + 2) (.int .i64 p) (by omega)) (below_drew1 (Below.refl _ _)), below_drew1 (HBR.out.setCell (p := ⟨gr, i * 5 + 2, none⟩) hgrb _)⟩
              case measure => simp [intOf]; omega
            case neg =>
              have hltD : decide (i < M) = false := by simp [hlt]
              obtain rfl : M = i := by omega
              have hend : scl k es M = es.map (scE k) := by rw [← HMM.out, scl_end]
              rw [hend] at HO
              obtain ⟨esG, hG⟩ : ∃ esG, es.map (scE k) = esG := ⟨_, rfl⟩
              rw [hG] at HO
              have hlG : esG.length = M := by rw [← hG, List.length_map, HMM.out]
              have HLG := Lib.hid hlG
              have HGE := Lib.hid hG
              have HOKG : Hid (∀ e ∈ esG, e.Ok N) := fun x hx => by
                rw [← HGE.out] at hx
                obtain ⟨e, he, rfl⟩ := List.mem_map.1 hx
                have ho := HOK.out e he
                have h2 := HCC.out e he
                have hp0 : 0 ≤ (k : Int) * e.cost := Int.mul_nonneg (by omega) ho.cost.1
                have hp1 : (k : Int) * e.cost ≤ 255 * e.cost := Int.mul_le_mul_of_nonneg_right (by omega) ho.cost.1
                exact ⟨ho.hd, ⟨hp0, by show (k : Int) * e.cost ≤ _; omega⟩, ho.ts, ho.few⟩
              have HGG : Hid (HG wr wr.heap.size A5 M esG) := by
                have h1 := HO.out
                rw [← hlG] at h1 ⊢
                refine HG.of_own' h1 HBr.out.size (fun x hx => ?_)
                rw [← HGE.out] at hx
                obtain ⟨e, he, rfl⟩ := List.mem_map.1 hx
                exact (HE.out.below HBr.out).2 e he
              have c80 : wr.cell? ⟨g8, 0, none⟩ = some (.int .i64 N) := HK8r.out.cell 0
              have HVr := Lib.hid (HVa.out.below HBR.out HLT.out.2.2.1)
              have HAr := Lib.hid (HAa.out.below HBR.out HLT.out.2.2.2.1)
              have HKHr := Lib.hid (HKHa.out.below HBR.out HLT.out.2.1)
              clear hend hG hlG hlt hi HVa HAa HKHa HBa HOa HK8a h46
              go_wp2_with fail
              have hs := solve_any wr N cA wr.heap.size A5 esG (by rw [HLG.out]; exact HGG.out) (Nat.le_refl _) HOKG.out hN2 (by rw [HLG.out]; exact hM)
              rw [HLG.out] at hs
              refine hs.mono ?_
              rintro e12 w12 ⟨vw, ew, W, rfl, hWl, KW, KF, hsolW, _, _, hb12⟩
              have hWV : gv W = fun i => sc k (gv V i) := by
                refine hsolW.uniq ?_
                rw [← HGE.out]
                exact HS.out.1.scale HK1.out HOK.out (by rw [HGE.out]; exact HOKG.out) (fun i => by rw [HS.out.1.uniq HS0.out.1]; exact HS0.out.2 i)
              have hFE : chs (gv W) esG N = chs (gv V) es N := by rw [hWV, ← HGE.out]; exact chs_scale N HK1.out HS.out.1.nrm HOK.out HVB.out
              rw [hFE] at KF
              have HW12 := Lib.hid KW
              have HF12 := Lib.hid KF
              have HWL := Lib.hid (And.intro hWl hWV)
              have HV12 := Lib.hid (HVr.out.below hb12 HVr.out.lt)
              have HA12 := Lib.hid (HAr.out.below hb12 HAr.out.lt)
              have HKH12 := Lib.hid (HKHr.out.below hb12 HKHr.out.lt)
              have HB12 : Hid (Below w.heap.size w w12) := HBr.out.trans (hb12.mono HBr.out.size)
              have c0 : w12.cell? ⟨bh, 0, none⟩ = some (.int .i64 N) := HKH12.out.cell 0
              have hqN : ((N : Int) != (N : Int)) = false := by simp
              clear hs hWl KW KF hsolW hb12 hWV hFE c80 c81 HGG
              go_wp2_with fail
              refine (samei_any w12 (some ⟨ea, 0, none⟩) (some ⟨ew, 0, none⟩) N N N w12.heap.size w12.heap.size (chs (gv V) es N) (Reads.of_blk HA12.out HA12.out.lt (by simp) (by simp [ints, chs_len])) (Reads.of_blk HF12.out HF12.out.lt (by simp) (by simp [ints, chs_len])) (by omega)).mono ?_
              rintro e13 w13 ⟨rfl, hb13⟩
              have HV13 := Lib.hid (HV12.out.below hb13 HV12.out.lt)
              have HW13 := Lib.hid (HW12.out.below hb13 HW12.out.lt)
              have HKH13 := Lib.hid (HKH12.out.below hb13 HKH12.out.lt)
              have HB13 : Hid (Below w.heap.size w w13) := HB12.out.trans (hb13.mono HB12.out.size)
              clear hb13 c0 hqN
              go_wp2_with fail
              have HNQ := Lib.hid run_neq_vl
              go_loopw [14] (fun x wr => ∃ i : Nat, i ≤ N ∧ x = .int .i64 i ∧ Hid (Below w13.heap.size w13 wr)) (fun x _ => N - (intOf x).toNat)
              case atStart => exact ⟨0, Nat.zero_le _, rfl, Below.refl _ _⟩
              case round =>
                rename World => w14
                obtain ⟨i, hi, rfl, HBQ⟩ := hrel
                have HBq : Hid (Below w.heap.size w w14) := HB13.out.trans (HBQ.out.mono HB13.out.size)
                have c0 : w14.cell? ⟨bh, 0, none⟩ = some (.int .i64 N) := (HKH13.out.below HBQ.out HKH13.out.lt).cell 0
                by_cases hlt : i < N
                case neg =>
                  have hltD : decide (i < N) = false := by simp [hlt]
                  go_wp2_with fail
                  refine (awake_any _).mono ?_
                  rintro e wa ⟨rfl, hba⟩
                  go_wp2_with fail
                  go_ret
                  exact ⟨rfl, HBq.out.trans (hba.mono HBq.out.size)⟩
                case pos =>
                  have hltD : decide (i < N) = true := by simp [hlt]
                  obtain ⟨v, hv⟩ : ∃ v, gv V i = v := ⟨_, rfl⟩
                  obtain ⟨y, hy⟩ : ∃ y, gv W i = y := ⟨_, rfl⟩
                  have hvi : V[i]? = some v := by rw [← hv, gv, List.getElem?_eq_getElem (by rw [HS.out.2]; exact hlt)]; rfl
                  have hyi : W[i]? = some y := by rw [← hy, gv, List.getElem?_eq_getElem (by rw [HWL.out.1]; exact hlt)]; rfl
                  have hys : y = sc k v := by
                    rw [← hy, HWL.out.2]
                    show sc k (gv V i) = sc k v
                    rw [hv]
                  have hnv : Nrm v := by rw [← hv]; exact HS.out.1.nrm i
                  have hvb := HVB.out i
                  rw [hv] at hvb
                  have HV14 := Lib.hid (HV13.out.below HBQ.out HV13.out.lt)
                  have HW14 := Lib.hid (HW13.out.below HBQ.out HW13.out.lt)
                  obtain ⟨v0, v1⟩ := HV14.out.vl_at hvi
                  have hl1 := HV14.out.lt
                  have hl2 := HW14.out.lt
                  have YI := Lib.hid hyi
                  clear hv hy hvi hyi
                  by_cases hf : v.c < 1099511627776
                  case pos =>
                    have hfD : decide (v.c < 1099511627776) = true := by simp [hf]
                    have hfk := hvb hf
                    have hp0 : 0 ≤ (k : Int) * v.c := Int.mul_nonneg (by omega) hnv.1.1
                    obtain ⟨p, hp⟩ : ∃ p, (k : Int) * v.c = p := ⟨_, rfl⟩
                    have u1 : IntKind.i64.wrap ((k : Int) * v.c) = p := by rw [hp]; exact IntWalk.i64_in _ (by omega)
                    have hyp : y = ⟨p, v.s⟩ := by rw [hys, sc, if_pos hfk, hp]
                    subst hyp
                    clear hys hnv hvb hfk hp0 hp hf
                    go_upto_region 32 with fail
                    obtain ⟨w15, hw15⟩ : ∃ w15, w14.alloc (.cells #[.int .i64 p, .int .i64 v.s] 23) = w15 := ⟨_, rfl⟩
                    obtain ⟨g15, hg15⟩ : ∃ g15, w14.heap.size = g15 := ⟨_, rfl⟩
                    have X15 : Below w14.heap.size w14 w15 := by rw [← hw15]; exact (Below.refl _ _).alloc (Nat.le_refl _) _
                    have K15 : Blk w15 g15 23 #[.int .i64 p, .int .i64 v.s] := by rw [← hw15]; exact Blk.new' w14 _ _ hg15
                    have x0 : w15.cell? ⟨g15, 0, none⟩ = some (.int .i64 p) := K15.cell 0
                    have x1 : w15.cell? ⟨g15, 1, none⟩ = some (.int .i64 v.s) := K15.cell 1
                    obtain ⟨y0, y1⟩ := (HW14.out.below X15 hl2).vl_at YI.out
                    have HBZ : Hid (Below w13.heap.size w13 w15) := HBQ.out.trans (X15.mono HBQ.out.size)
                    rw [hw15]
                    try rw [hg15]
                    clear hw15 hg15 X15 K15 v0 v1 c0 u1 hl1 hl2
                    have hE := HNQ.out
                    go_quiet (fail)
                    go_wp2_with fail
                    go_roundw
                    case rel => exact ⟨i + 1, by omega, by go_num, below_drewN HBZ.out _⟩
                    case measure => simp [intOf]; omega
                  case neg =>
                    have hfD : decide (v.c < 1099511627776) = false := by simp [hf]
                    have hvt : v = vtop := hnv.eq_top (by omega)
                    have hyt : y = vtop := by rw [hys, hvt, sc_top HK1.out]
                    subst hvt hyt
                    have v0' : w14.cell? ⟨va, i * 2, none⟩ = some (.int .i64 1099511627776) := v0
                    have v1' : w14.cell? ⟨va, i * 2 + 1, none⟩ = some (.int .i64 0) := v1
                    clear hys hnv hvb hf hfD v0 v1
                    go_upto_region 32 with fail
                    obtain ⟨w15, hw15⟩ : ∃ w15, w14.alloc (.cells #[.int .i64 1099511627776, .int .i64 0] 23) = w15 := ⟨_, rfl⟩
                    obtain ⟨g15, hg15⟩ : ∃ g15, w14.heap.size = g15 := ⟨_, rfl⟩
                    have X15 : Below w14.heap.size w14 w15 := by rw [← hw15]; exact (Below.refl _ _).alloc (Nat.le_refl _) _
                    have K15 : Blk w15 g15 23 #[.int .i64 1099511627776, .int .i64 0] := by rw [← hw15]; exact Blk.new' w14 _ _ hg15
                    have x0 : w15.cell? ⟨g15, 0, none⟩ = some (.int .i64 1099511627776) := K15.cell 0
                    have x1 : w15.cell? ⟨g15, 1, none⟩ = some (.int .i64 0) := K15.cell 1
                    have hy01 := (HW14.out.below X15 hl2).vl_at YI.out
                    have y0 : w15.cell? ⟨vw, i * 2, none⟩ = some (.int .i64 1099511627776) := hy01.1
                    have y1 : w15.cell? ⟨vw, i * 2 + 1, none⟩ = some (.int .i64 0) := hy01.2
                    have HBZ : Hid (Below w13.heap.size w13 w15) := HBQ.out.trans (X15.mono HBQ.out.size)
                    rw [hw15]
                    try rw [hg15]
                    clear hw15 hg15 X15 K15 v0' v1' c0 hl1 hl2 hy01
                    have hE := HNQ.out
                    go_quiet (fail)
                    go_wp2_with fail
                    go_roundw
                    case rel => exact ⟨i + 1, by omega, by go_num, below_drewN HBZ.out _⟩
                    case measure => simp [intOf]; omega
end Go.Proofs.Ytkeiakmfnammbaa
