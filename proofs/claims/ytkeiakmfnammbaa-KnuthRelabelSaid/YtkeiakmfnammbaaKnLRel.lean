/- The law KnuthRelabel. -/
import Derived.Test.YtkeiakmfnammbaaKnRel
import Derived.Test.YtkeiakmfnammbaaKnLLess
import Derived.Test.YtkeiakmfnammbaaOpen
namespace Go.Proofs.Ytkeiakmfnammbaa
open Go.RowKit

set_option maxRecDepth 100000 in
set_option maxHeartbeats 8000000 in
theorem lawRel_any (Z : Int) (ce B : Nat) (E : Option Addr) (es : List Ed) (x : Int) (w : World) (hE : HG w B E es.length es) (hB : B ≤ w.heap.size) (hce : es.length ≤ ce) (hcm : ce ≤ maxLen) (hx : 0 ≤ x ∧ x ≤ 255) : Calls Try.prog 12 #[.agg #[.int .i64 Z, .slice E es.length ce], .int .u8 x] w fun e w' => e = .returned (.bool true) ∧ Below w.heap.size w w' := by
  have HE := Lib.hid (hE.more hB)
  unfold maxLen at hcm
  obtain ⟨xk, rfl⟩ := Int.eq_ofNat_of_zero_le hx.1
  have hk255 : xk ≤ 255 := by omega
  clear hx
  clear hE
  obtain ⟨M, hMM⟩ : ∃ M, es.length = M := ⟨_, rfl⟩
  rw [hMM] at HE hce ⊢
  have HMM := Lib.hid hMM
  clear hMM
  go_enter Try.func12, Try.ntmps12
  go_wp2_with fail
  obtain ⟨w1, hw1⟩ : ∃ w1, w.alloc (.cells #[.int .i64 Z, .slice E M ce] 34) = w1 := ⟨_, rfl⟩
  rw [hw1]
  obtain ⟨bh, hbh⟩ : ∃ bh, w.heap.size = bh := ⟨_, rfl⟩
  have HKH1 : Hid (Blk w1 bh 34 #[.int .i64 Z, .slice E M ce]) := by rw [← hw1]; exact Blk.new' w _ _ hbh
  have HB1 : Hid (Below w.heap.size w w1) := by rw [← hw1]; exact (Below.refl _ _).alloc (Nat.le_refl _) _
  try rw [hbh]
  have HBH := Lib.hid hbh
  clear hw1 hbh
  have hs := bounded_any w1 Z ce w.heap.size E es (by rw [HMM.out]; exact HE.out.below HB1.out) HB1.out.size
  rw [HMM.out] at hs
  refine hs.mono ?_
  rintro e w2 ⟨b, rfl, hb, hbw⟩
  have HBB := Lib.hid hb
  have HKH2 := Lib.hid (HKH1.out.below hbw HKH1.out.lt)
  have HB2 : Hid (Below w.heap.size w w2) := HB1.out.trans (hbw.mono HB1.out.size)
  clear hs hb hbw HKH1 HB1
  cases b with
  | false =>
    go_wp2_with fail
    refine (awake_any _).mono ?_
    rintro e wa ⟨rfl, hba⟩
    go_wp2_with fail
    go_ret
    exact ⟨rfl, HB2.out.trans (hba.mono HB2.out.size)⟩
  | true =>
  obtain ⟨N, hZ, hN1, hN2, hM, hok, V0, hsol0, hsz⟩ := HBB.out rfl
  rw [HMM.out] at hM
  subst hZ
  have HOK := Lib.hid hok
  have HS0 := Lib.hid (And.intro hsol0 hsz)
  have c0 : w2.cell? ⟨bh, 0, none⟩ = some (.int .i64 N) := HKH2.out.cell 0
  have c1 : w2.cell? ⟨bh, 1, none⟩ = some (.slice E M ce) := HKH2.out.cell 1
  clear hok HBB hsol0 hsz
  obtain ⟨i0, hi0, hz0, hz1, hz2⟩ := info_parts infoHe
  obtain ⟨j0, hj0, hy0, hy1, hy2⟩ := info_parts infoI1
  obtain ⟨k, hk⟩ : ∃ k, xk % N = k := ⟨_, rfl⟩
  have hkN : k < N := by have := Nat.mod_lt xk (show 0 < N by omega); omega
  have HKM := Lib.hid hk
  have hN0 : ¬ N = 0 := by omega
  have hz : ((N : Int) == 0) = false := by rw [beq_eq_false_iff_ne]; omega
  have v1 : IntKind.i64.wrap (xk : Int) = (xk : Int) := IntWalk.i64_in _ (by omega)
  have v2 : (xk : Int).tmod (N : Int) = (k : Int) := by rw [← HKM.out]; rfl
  have v3 : xk % N = k := HKM.out
  have v5 : IntKind.i64.wrap (k : Int) = (k : Int) := IntWalk.i64_in _ (by omega)
  have v8 : (xk : Int) % (N : Int) = (k : Int) := by rw [← v3]; exact (Int.natCast_emod xk N).symm
  clear hk
  go_wp2_with fail
  clear v1 v2 v3 v5 v8 c0 c1
  obtain ⟨w4, hw4⟩ : ∃ w4, w2.alloc (.cells #[.int .i64 N, .slice none 0 0] 34) = w4 := ⟨_, rfl⟩
  obtain ⟨pb, hpb⟩ : ∃ pb, w2.heap.size = pb := ⟨_, rfl⟩
  have HP4 : Hid (Blk w4 pb 34 #[.int .i64 N, .slice none 0 0]) := by rw [← hw4]; exact Blk.new' w2 _ _ hpb
  have hx4 : Below w2.heap.size w2 w4 := by rw [← hw4]; exact (Below.refl _ _).alloc (Nat.le_refl _) _
  have HKH4 := Lib.hid (HKH2.out.below hx4 HKH2.out.lt)
  have HB4 : Hid (Below w.heap.size w w4) := HB2.out.trans (hx4.mono HB2.out.size)
  rw [hw4]
  try rw [hpb]
  have HPB : Hid (w.heap.size ≤ pb) := by have := HB2.out.size; show w.heap.size ≤ pb; omega
  have HNE : Hid (bh ≠ pb) := by have := HKH2.out.lt; show bh ≠ pb; omega
  clear hw4 hpb hx4 HKH2 HB2
  go_loopw [7, 8] (fun v x wr => ∃ i : Nat, i ≤ M ∧ x = .int .i64 i ∧ ∃ L, Hid (All2 (Rn N k) (es.take i) L) ∧ Hid (wr.ownsRow w4.heap.size 43 5 v L.length (eds L)) ∧ Hid (EdT wr L) ∧ Hid (Below w4.heap.size w4 wr)) (fun _ x _ => M - (intOf x).toNat)
  case atStart => exact ⟨0, Nat.zero_le _, rfl, [], All2.nil, World.ownsRow_nil _ _ _ _, EdT.nil _, Below.refl _ _⟩
  case round =>
    obtain ⟨i, hi, rfl, L, HA, HO, HT, HBR⟩ := hrel
    have HKH5 := Lib.hid (HKH4.out.below HBR.out HKH4.out.lt)
    have HP5 := Lib.hid (HP4.out.below HBR.out HP4.out.lt)
    have HB5 : Hid (Below w.heap.size w wr) := HB4.out.trans (HBR.out.mono HB4.out.size)
    have c0 : wr.cell? ⟨bh, 0, none⟩ = some (.int .i64 N) := HKH5.out.cell 0
    have c1 : wr.cell? ⟨bh, 1, none⟩ = some (.slice E M ce) := HKH5.out.cell 1
    have hlen : L.length = i := by rw [HA.out.len, List.length_take, HMM.out]; omega
    have HLE := Lib.hid hlen
    have hown := HO.out
    obtain ⟨A, cA, rfl, hlc, _⟩ := own_form hown
    clear hown hlen
    by_cases hlt : i < M
    case neg =>
      have hltD : decide (i < M) = false := by simp [hlt]
      obtain rfl : M = i := by omega
      have p0 : wr.cell? ⟨pb, 0, none⟩ = some (.int .i64 N) := HP5.out.cell 0
      have p1 : wr.cell? ⟨pb, 1, none⟩ = some (.slice none 0 0) := HP5.out.cell 1
      have z1 := HP5.out.frozen 1
      have HAA : Hid (All2 (Rn N k) es L) := by
        have := HA.out
        rw [← HMM.out, List.take_length] at this
        exact this
      have HOK' : Hid (∀ e ∈ L, e.Ok N) := fun e' he' => by
        obtain ⟨e, he, hr⟩ := HAA.out.mem_r e' he'
        exact hr.ok (HOK.out e he) (by omega)
      clear HA hlt hi
      go_upto_region 17 with fail
      obtain ⟨w6, hw6⟩ : ∃ w6, wr.setCell ⟨pb, 1, none⟩ (.slice A L.length cA) = w6 := ⟨_, rfl⟩
      have hne : pb < w4.heap.size := HP4.out.lt
      have HOX : Hid (w6.ownsRow w4.heap.size 43 5 (.slice A L.length cA) L.length (eds L)) := by rw [← hw6]; exact own_touch HO.out (F := fun k => k = pb) ((Touch.refl (fun k => k = pb) wr).setCell (p := ⟨pb, 1, none⟩) (.inl rfl) (.slice A L.length cA)) (fun k hk e => by have := own_ge HO.out hk; omega)
      have HTX : Hid (EdT w6 L) := by rw [← hw6]; exact HT.out.set HP5.out 1 _
      have HBX : Hid (Below w.heap.size w w6) := by rw [← hw6]; exact HB5.out.setCell (p := ⟨pb, 1, none⟩) HPB.out _
      have HKHX : Hid (Blk w6 bh 34 #[.int .i64 N, .slice E M ce]) := by rw [← hw6]; exact HKH5.out.far (p := ⟨pb, 1, none⟩) (HNE.out) _
      have HPX : Hid (Blk w6 pb 34 #[.int .i64 N, .slice A L.length cA]) := by
        rw [← hw6]
        have := HP5.out.set_ 1 (.slice A L.length cA)
        simp at this
        exact this
      rw [hw6]
      have HGG := Lib.hid (HTX.out.hg HOX.out)
      have d0 : w6.cell? ⟨bh, 0, none⟩ = some (.int .i64 N) := HKHX.out.cell 0
      have d1 : w6.cell? ⟨bh, 1, none⟩ = some (.slice E M ce) := HKHX.out.cell 1
      clear hw6 hne p0 p1 z1 c0 c1 HO HT HKH5 HP5 HB5 HOX HTX HBR
      go_wp2_with fail
      have hs := solve_any w6 N ce w.heap.size E es (by rw [HMM.out]; exact HE.out.below HBX.out) HBX.out.size HOK.out hN2 (by rw [HMM.out]; exact hM)
      rw [HMM.out] at hs
      refine hs.mono ?_
      rintro e w7 ⟨va, ea, V, rfl, hVl, KV, KE, hsol, _, _, hb7⟩
      have HV7 := Lib.hid KV
      have HA7 := Lib.hid KE
      have HS := Lib.hid (And.intro hsol hVl)
      have HX7 : Hid (Below w6.heap.size w6 w7) := hb7
      have HKH7 := Lib.hid (HKHX.out.below hb7 HKHX.out.lt)
      have HP7 := Lib.hid (HPX.out.below hb7 HPX.out.lt)
      have HB7 : Hid (Below w.heap.size w w7) := HBX.out.trans (hb7.mono HBX.out.size)
      have e0 : w7.cell? ⟨pb, 0, none⟩ = some (.int .i64 N) := HP7.out.cell 0
      have e1 : w7.cell? ⟨pb, 1, none⟩ = some (.slice A L.length cA) := HP7.out.cell 1
      have hL60 : L.length ≤ 60 := by rw [HLE.out]; exact hM
      clear hs hsol hVl KV KE hb7 d0 d1
      go_wp2_with fail
      have hs := solve_any w7 N cA w6.heap.size A L (HGG.out.below HX7.out) HX7.out.size HOK'.out hN2 hL60
      refine hs.mono ?_
      rintro e w8 ⟨vw, ew, W, rfl, hWl, KW, KF, hsolW, _, _, hb8⟩
      have hWV : gv V = fun i => gv W (pm N k i) := HS.out.1.uniq (hsolW.relabel HAA.out HOK.out hkN)
      have HCH : Hid (∀ i, cho (gv W) L (pm N k i) = cho (gv V) es i) := fun i => by rw [hWV]; exact cho_relabel HAA.out HOK.out hkN i
      have HW8 := Lib.hid KW
      have HF8 := Lib.hid KF
      have HWL := Lib.hid (And.intro hWl hWV)
      have HV8 := Lib.hid (HV7.out.below hb8 HV7.out.lt)
      have HA8 := Lib.hid (HA7.out.below hb8 HA7.out.lt)
      have HKH8 := Lib.hid (HKH7.out.below hb8 HKH7.out.lt)
      have HB8 : Hid (Below w.heap.size w w8) := HB7.out.trans (hb8.mono HB7.out.size)
      have d0 : w8.cell? ⟨bh, 0, none⟩ = some (.int .i64 N) := HKH8.out.cell 0
      have hqN : ((N : Int) != (N : Int)) = false := by simp
      clear hs hWl KW KF hsolW hb8 hWV HGG e0 e1 HX7
      go_wp2_with fail
      clear d0 hqN
      have HNQ := Lib.hid run_neq_vl
      go_loopw [16] (fun x wr => ∃ i : Nat, i ≤ N ∧ x = .int .i64 i ∧ Hid (Below w8.heap.size w8 wr)) (fun x _ => N - (intOf x).toNat)
      case atStart => exact ⟨0, Nat.zero_le _, rfl, Below.refl _ _⟩
      case round =>
        rename World => w9
        obtain ⟨i, hi, rfl, HBQ⟩ := hrel
        have HBq : Hid (Below w.heap.size w w9) := HB8.out.trans (HBQ.out.mono HB8.out.size)
        have c0 : w9.cell? ⟨bh, 0, none⟩ = some (.int .i64 N) := (HKH8.out.below HBQ.out HKH8.out.lt).cell 0
        by_cases hlt : i < N
        case neg =>
          have hltD : decide (i < N) = false := by simp [hlt]
          go_wp2_with fail
          refine (awake_any _).mono ?_
          rintro e wa ⟨rfl, hba⟩
          go_wp2_with fail
          go_ret
          exact ⟨rfl, HBq.out.trans (hba.mono HBq.out.size)⟩
        case pos =>
          have hltD : decide (i < N) = true := by simp [hlt]
          obtain ⟨r, hr⟩ : ∃ r, (i + k) % N = r := ⟨_, rfl⟩
          have hrN : r < N := by have := Nat.mod_lt (i + k) (show 0 < N by omega); omega
          have HR := Lib.hid hr
          have hpm : pm N k i = r := by unfold pm; rw [if_pos hlt]; exact hr
          obtain ⟨v, hv⟩ : ∃ v, gv V i = v := ⟨_, rfl⟩
          have hvi : V[i]? = some v := by rw [← hv, gv, List.getElem?_eq_getElem (by rw [HS.out.2]; exact hlt)]; rfl
          have hyr : gv W r = v := by rw [← hv, HWL.out.2]; show _ = gv W (pm N k i); rw [hpm]
          have hyi : W[r]? = some v := by rw [← hyr, gv, List.getElem?_eq_getElem (by rw [HWL.out.1]; exact hrN)]; rfl
          obtain ⟨v0, v1⟩ := (HV8.out.below HBQ.out HV8.out.lt).vl_at hvi
          obtain ⟨y0, y1⟩ := (HW8.out.below HBQ.out HW8.out.lt).vl_at hyi
          obtain ⟨z, hz9⟩ : ∃ z, cho (gv V) es i = z := ⟨_, rfl⟩
          have hzr : cho (gv W) L r = z := by rw [← hpm, HCH.out, hz9]
          have a0 : w9.cell? ⟨ea, i, none⟩ = some (.int .i64 z) := by rw [(HA8.out.below HBQ.out HA8.out.lt).cell]; simp [ints, chs_at hlt, hz9]
          have f0 : w9.cell? ⟨ew, r, none⟩ = some (.int .i64 z) := by rw [(HF8.out.below HBQ.out HF8.out.lt).cell]; simp [ints, chs_at hrN, hzr]
          clear hv hvi hyr hyi hz9 hzr hpm hr
          have u1 : IntKind.i64.wrap ((i : Int) + (k : Int)) = (i : Int) + (k : Int) := IntWalk.i64_in _ (by omega)
          have u2 : ((i : Int) + (k : Int)).tmod (N : Int) = (r : Int) := by rw [← HR.out]; rfl
          have u3 : (i + k) % N = r := HR.out
          have u5 : IntKind.i64.wrap (r : Int) = (r : Int) := IntWalk.i64_in _ (by omega)
          have u8 : ((i : Int) + (k : Int)) % (N : Int) = (r : Int) := by rw [← u3]; exact (Int.natCast_emod (i + k) N).symm
          have b1 : decide ((r : Int) < 0) = false := by simp
          have b2 : decide ((0 : Int) ≤ (r : Int)) = true := by simp
          have b3 : decide ((N : Int) ≤ (r : Int)) = false := by simp; omega
          have b4 : decide (N ≤ r) = false := by simp; omega
          have b5 : decide ((i : Int) < 0) = false := by simp
          have b6 : decide ((0 : Int) ≤ (i : Int)) = true := by simp
          have b7 : decide ((N : Int) ≤ (i : Int)) = false := by simp; omega
          have b8 : decide (N ≤ i) = false := by simp; omega
          have hE := HNQ.out
          go_upto_region 24 with fail
          go_quiet (fail)
          go_wp2_with fail
          go_roundw
          case rel => exact ⟨i + 1, by omega, by go_num, below_drewN HBQ.out _⟩
          case measure => simp [intOf]; omega
    case pos =>
      have hltD : decide (i < M) = true := by simp [hlt]
      obtain ⟨b', off, e, hE', hb', he, p0, p1, p2, p3, p4, hR⟩ := (HE.out.below HB5.out).at_ hlt
      rw [hE'] at c1
      have HEk := Lib.hid he
      have HOE := Lib.hid (HOK.out e (List.mem_of_getElem? he))
      have hfew := HOE.out.few
      clear hE' he hR
      obtain ⟨m, hm⟩ : ∃ m, e.ts.length = m := ⟨_, rfl⟩
      rw [hm] at p1 hfew
      have HMT := Lib.hid hm
      clear hm
      go_upto_region 10 with fail
      obtain ⟨w5, hw5⟩ : ∃ w5, wr.alloc (.cells #[.int .i64 e.hd, .slice e.A m e.c, .int .i64 e.cost, .int .i64 e.l0, .int .i64 e.l1] 43) = w5 := ⟨_, rfl⟩
      obtain ⟨g5, hg5⟩ : ∃ g5, wr.heap.size = g5 := ⟨_, rfl⟩
      have HK5 : Hid (Blk w5 g5 43 #[.int .i64 e.hd, .slice e.A m e.c, .int .i64 e.cost, .int .i64 e.l0, .int .i64 e.l1]) := by rw [← hw5]; exact Blk.new' wr _ _ hg5
      have hx5 : Below wr.heap.size wr w5 := by rw [← hw5]; exact (Below.refl _ _).alloc (Nat.le_refl _) _
      have HKH5' := Lib.hid (HKH5.out.below hx5 HKH5.out.lt)
      have HO5 := Lib.hid (own_below HO.out hx5)
      have HT5 := Lib.hid (HT.out.below hx5)
      have HX5 : Hid (Below w4.heap.size w4 w5) := HBR.out.trans (hx5.mono HBR.out.size)
      have HB5' : Hid (Below w.heap.size w w5) := HB5.out.trans (hx5.mono HB5.out.size)
      have HBW : Hid (w.heap.size ≤ w5.heap.size ∧ w4.heap.size ≤ w5.heap.size) := ⟨HB5'.out.size, HX5.out.size⟩
      have HAG : Hid (∀ q, (Value.slice A L.length cA).ownBlock = some q → q < g5) := fun q hq => by have := own_lt HO.out hq; omega
      rw [hw5]
      try rw [hg5]
      clear hw5 hg5 hx5 p0 p1 p2 p3 p4 c0 c1 HKH5 HP5 HO HT HBR HB5
      go_wp2_with fail
      go_loopw [10, 11] (fun v x wj => ∃ j : Nat, j ≤ m ∧ x = .int .i64 j ∧ Hid (wj.ownsRow w5.heap.size 3 1 v j (ints ((e.ts.take j).map fun t => (t + k) % (N : Int)))) ∧ Hid (Below w5.heap.size w5 wj)) (fun _ x _ => m - (intOf x).toNat)
      case atStart => exact ⟨0, Nat.zero_le _, rfl, World.ownsRow_nil _ _ _ _, Below.refl _ _⟩
      case round =>
        rename World => wj
        obtain ⟨j, hj, rfl, HOJ, HBJ⟩ := hrel
        have HK6 := Lib.hid (HK5.out.below HBJ.out HK5.out.lt)
        have HKH6 := Lib.hid (HKH5'.out.below HBJ.out HKH5'.out.lt)
        have HB6 : Hid (Below w.heap.size w wj) := HB5'.out.trans (HBJ.out.mono HBW.out.1)
        have c0 : wj.cell? ⟨bh, 0, none⟩ = some (.int .i64 N) := HKH6.out.cell 0
        have k0 : wj.cell? ⟨g5, 0, none⟩ = some (.int .i64 e.hd) := HK6.out.cell 0
        have k1 : wj.cell? ⟨g5, 1, none⟩ = some (.slice e.A m e.c) := HK6.out.cell 1
        have k2 : wj.cell? ⟨g5, 2, none⟩ = some (.int .i64 e.cost) := HK6.out.cell 2
        have hown := HOJ.out
        obtain ⟨tA, tc, rfl, htc, _⟩ := own_form hown
        clear hown
        by_cases hjm : j < m
        case pos =>
          have hjmD : decide (j < m) = true := by simp [hjm]
          have hR := ((HE.out.below HB6.out).2 e (List.mem_of_getElem? HEk.out))
          rw [HMT.out] at hR
          obtain ⟨bt, ot, heA, hbt, ct⟩ := hR.int_at hjm
          obtain ⟨t, ht⟩ : ∃ t, e.ts[j]? = some t := ⟨_, List.getElem?_eq_getElem (by rw [HMT.out]; exact hjm)⟩
          rw [ht, Option.getD_some] at ct
          obtain ⟨ht0, htN⟩ := HOE.out.ts t (List.mem_of_getElem? ht)
          obtain ⟨a, rfl⟩ := Int.eq_ofNat_of_zero_le ht0
          have HNX := Lib.hid (take_map_snoc ht (fun t => (t + k) % (N : Int)))
          rw [heA] at k1
          obtain ⟨r, hr⟩ : ∃ r, (a + k) % N = r := ⟨_, rfl⟩
          have hrN : r < N := by have := Nat.mod_lt (a + k) (show 0 < N by omega); omega
          have HR := Lib.hid hr
          have haN : a < N := by omega
          clear hr ht ht0 htN heA hR
          have u1 : IntKind.i64.wrap ((a : Int) + (k : Int)) = (a : Int) + (k : Int) := IntWalk.i64_in _ (by omega)
          have u2 : ((a : Int) + (k : Int)).tmod (N : Int) = (r : Int) := by rw [← HR.out]; rfl
          have u3 : (a + k) % N = r := HR.out
          have u5 : IntKind.i64.wrap (r : Int) = (r : Int) := IntWalk.i64_in _ (by omega)
          have u8 : ((a : Int) + (k : Int)) % (N : Int) = (r : Int) := by rw [← u3]; exact (Int.natCast_emod (a + k) N).symm
          have HU8 := Lib.hid u8
          have hzj : w5.heap.size ≤ wj.heap.size := HBJ.out.size
          have hl1 : g5 < w5.heap.size := HK5.out.lt
          have hl2 : bh < w5.heap.size := HKH5'.out.lt
          have hl3 : bt < w5.heap.size := by have := HBW.out.1; omega
          have H9 : Hid (∀ w9, Below w5.heap.size wj w9 → w9.cell? ⟨g5, 1, none⟩ = some (.slice (some ⟨bt, ot, none⟩) m e.c) ∧ w9.cell? ⟨bt, ot + j, none⟩ = some (.int .i64 (a : Int)) ∧ w9.cell? ⟨bh, 0, none⟩ = some (.int .i64 N)) := fun w9 h =>
            ⟨((bcell h).1 _ _ hl1).trans k1, ((bcell h).1 _ _ hl3).trans ct, ((bcell h).1 _ _ hl2).trans c0⟩
          go_upto_region 14 with fail
          have B8 : Below w5.heap.size wj wj.drew := (Below.refl _ _).drew
          have B8' : Below w5.heap.size wj (wj.alloc (.cells #[.int .i64 r] 3)).drew := ((Below.refl _ wj).alloc hzj _).drew
          have HOA : Hid ((wj.alloc (.cells #[.int .i64 r] 3)).drew.ownsRow w5.heap.size 3 1 (.slice tA j tc) j (ints ((e.ts.take j).map fun t => (t + k) % (N : Int)))) := own_below HOJ.out (((Below.refl _ wj).alloc (Nat.le_refl _) _).drew)
          have NEWS : Hid (∀ q v, ([.int .i64 r] : List Value)[q]? = some v → ((wj.alloc (.cells #[.int .i64 r] 3)).drew).cell? ((⟨wj.heap.size, 0, none⟩ : Addr).add q) = some v) :=
            World.news_of_block (Blk.new' wj 3 #[.int .i64 (r : Nat)] rfl)
          have hsz : Hid (((wj.alloc (.cells #[.int .i64 r] 3)).drew).heap.size = wj.heap.size + 1) := by show (wj.alloc _).heap.size = _; simp
          have HZB : Hid (w5.heap.size ≤ ((wj.alloc (.cells #[.int .i64 r] 3)).drew).heap.size) := by show w5.heap.size ≤ _; rw [hsz.out]; omega
          clear k0 k1 k2 ct c0
          go_region_held3 (fun w' => w'.cell? ⟨g5, 1, none⟩ = some (.slice (some ⟨bt, ot, none⟩) m e.c) ∧ w'.cell? ⟨bt, ot + j, none⟩ = some (.int .i64 (a : Int)) ∧ w'.cell? ⟨bh, 0, none⟩ = some (.int .i64 N))
            (first | exact H9.out _ B8 | exact H9.out _ B8' | exact H9.out _ X9)
            (first | (refine step_append_lies _ (by rfl) _ _ 36 (by rfl) w5.heap.size 3 j0 (.int .i64 0) 1 8 Try.underlying36 hj0 hy0 hy1 hy2 rfl (by decide) (.slice tA j tc) j (ints ((e.ts.take j).map fun t => (t + k) % (N : Int))) (by rfl) HOA.out ⟨wj.heap.size, 0, none⟩ 1 1 [.int .i64 (r : Nat)] (by rfl) (by rfl) NEWS.out (by simp [Value.oneCell']) (by omega) (by unfold maxLen; omega) (by omega) HZB.out (wj.heap.size + 1) hsz.out ?_; intro gg cap w9 hown9 hgrow hat hlt9; have HOW9 := Lib.hid hown9; have X9 : Below w5.heap.size wj w9 := B8'.grown hgrow HZB.out (fun k hk => own_ge HOA.out hk); clear hown9 hgrow hat))
          all_goals
            go_wp2_with fail
            go_roundw
            case rel => exact ⟨j + 1, by omega, by go_num, by rw [HNX.out]; show World.ownsRow _ _ _ _ _ _ (_ ++ [.int .i64 (((a : Int) + (k : Int)) % (N : Int))]); rw [HU8.out]; exact HOW9.out, HBJ.out.trans X9⟩
            case measure => simp [intOf]; omega
        case neg =>
          have hjmD : decide (j < m) = false := by simp [hjm]
          obtain rfl : m = j := by omega
          obtain ⟨ts', hts⟩ : ∃ ts', (e.ts.map fun t => (t + k) % (N : Int)) = ts' := ⟨_, rfl⟩
          have hlt' : ts'.length = m := by rw [← hts, List.length_map, HMT.out]
          have HTS := Lib.hid hts
          have HLT' := Lib.hid hlt'
          have HOT : Hid (wj.ownsRow w5.heap.size 3 1 (.slice tA ts'.length tc) ts'.length (ints ts')) := by
            have := HOJ.out
            rw [show e.ts.take m = e.ts by rw [← HMT.out, List.take_length], hts] at this
            rw [hlt']
            exact this
          obtain ⟨a, hae⟩ := Int.eq_ofNat_of_zero_le HOE.out.hd.1
          have haN : a < N := by have := HOE.out.hd.2; omega
          rw [hae] at k0
          have HAE := Lib.hid hae
          have HLB : Hid (bh < w4.heap.size) := HKH4.out.lt
          obtain ⟨r, hr⟩ : ∃ r, (a + k) % N = r := ⟨_, rfl⟩
          have hrN : r < N := by have := Nat.mod_lt (a + k) (show 0 < N by omega); omega
          have HR := Lib.hid hr
          have u1 : IntKind.i64.wrap ((a : Int) + (k : Int)) = (a : Int) + (k : Int) := IntWalk.i64_in _ (by omega)
          have u2 : ((a : Int) + (k : Int)).tmod (N : Int) = (r : Int) := by rw [← HR.out]; rfl
          have u3 : (a + k) % N = r := HR.out
          have u5 : IntKind.i64.wrap (r : Int) = (r : Int) := IntWalk.i64_in _ (by omega)
          have u8 : ((a : Int) + (k : Int)) % (N : Int) = (r : Int) := by rw [← u3]; exact (Int.natCast_emod (a + k) N).symm
          have HRN : Hid (Rn N k e ⟨r, ts', e.cost, 0, 0, tA, tc⟩) := ⟨by show (r : Int) = _; rw [hae, u8], rfl, hts.symm⟩
          have HOL := Lib.hid (own_below HO5.out HBJ.out)
          have HTL := Lib.hid (HT5.out.below HBJ.out)
          have HBZ : Hid (Below w4.heap.size w4 wj) := HX5.out.trans (HBJ.out.mono HX5.out.size)
          clear hr hts hlt' hae hjm hj HOJ
          have hzj : w5.heap.size ≤ wj.heap.size := HBJ.out.size
          have hz4 : w4.heap.size ≤ wj.heap.size := HBZ.out.size
          have hl1 : g5 < wj.heap.size := HK6.out.lt
          have hl2 : bh < wj.heap.size := HKH6.out.lt
          have HLL2 : Hid (L.length ≤ 60) := by show L.length ≤ 60; rw [HLE.out]; omega
          have hL60 := HLL2.out
          go_upto_region 15 with fail
          have HOA : Hid ((wj.alloc (.cells #[.int .i64 r, .slice tA m tc, .int .i64 e.cost, .int .i64 0, .int .i64 0] 43)).drew.ownsRow w4.heap.size 43 5 (.slice A L.length cA) L.length (eds L)) := own_below HOL.out (((Below.refl _ wj).alloc (Nat.le_refl _) _).drew)
          have HTA : Hid (EdT ((wj.alloc (.cells #[.int .i64 r, .slice tA m tc, .int .i64 e.cost, .int .i64 0, .int .i64 0] 43)).drew) (L ++ [⟨r, ts', e.cost, 0, 0, tA, tc⟩])) := (HTL.out.snoc (e := ⟨r, ts', e.cost, 0, 0, tA, tc⟩) HOT.out).below (((Below.refl _ wj).alloc (Nat.le_refl _) _).drew)
          have KA5 : Hid (Blk ((wj.alloc (.cells #[.int .i64 r, .slice tA m tc, .int .i64 e.cost, .int .i64 0, .int .i64 0] 43)).drew) g5 43 #[.int .i64 e.hd, .slice e.A m e.c, .int .i64 e.cost, .int .i64 e.l0, .int .i64 e.l1]) := (HK6.out.alloc _).drewN 1
          have KAH : Hid (Blk ((wj.alloc (.cells #[.int .i64 r, .slice tA m tc, .int .i64 e.cost, .int .i64 0, .int .i64 0] 43)).drew) bh 34 #[.int .i64 N, .slice E M ce]) := (HKH6.out.alloc _).drewN 1
          have B8' : Hid (Below w4.heap.size wj (wj.alloc (.cells #[.int .i64 r, .slice tA m tc, .int .i64 e.cost, .int .i64 0, .int .i64 0] 43)).drew) := ((Below.refl _ wj).alloc hz4 _).drew
          have NEWS : Hid (∀ q v, ([.int .i64 r, .slice tA m tc, .int .i64 e.cost, .int .i64 0, .int .i64 0] : List Value)[q]? = some v → ((wj.alloc (.cells #[.int .i64 r, .slice tA m tc, .int .i64 e.cost, .int .i64 0, .int .i64 0] 43)).drew).cell? ((⟨wj.heap.size, 0, none⟩ : Addr).add q) = some v) :=
            World.news_of_block (Blk.new' wj 43 #[.int .i64 (r : Nat), .slice tA m tc, .int .i64 e.cost, .int .i64 0, .int .i64 0] rfl)
          have hsz : Hid (((wj.alloc (.cells #[.int .i64 r, .slice tA m tc, .int .i64 e.cost, .int .i64 0, .int .i64 0] 43)).drew).heap.size = wj.heap.size + 1) := by show (wj.alloc _).heap.size = _; simp
          have HZB : Hid (w4.heap.size ≤ ((wj.alloc (.cells #[.int .i64 r, .slice tA m tc, .int .i64 e.cost, .int .i64 0, .int .i64 0] 43)).drew).heap.size) := by show w4.heap.size ≤ _; rw [hsz.out]; omega
          clear k1
          have S5 : Hid (∀ w9 : World, Blk w9 g5 43 #[.int .i64 e.hd, .slice e.A m e.c, .int .i64 e.cost, .int .i64 e.l0, .int .i64 e.l1] → Blk w9 bh 34 #[.int .i64 N, .slice E M ce] → w9.cell? ⟨g5, 0, none⟩ = some (.int .i64 (a : Int)) ∧ w9.cell? ⟨g5, 2, none⟩ = some (.int .i64 e.cost) ∧ w9.cell? ⟨bh, 0, none⟩ = some (.int .i64 N)) := fun w9 h1 h2 => ⟨by rw [← HAE.out]; exact h1.cell 0, h1.cell 2, h2.cell 0⟩
          have SD : Hid (wj.drew.cell? ⟨g5, 0, none⟩ = some (.int .i64 (a : Int)) ∧ wj.drew.cell? ⟨g5, 2, none⟩ = some (.int .i64 e.cost) ∧ wj.drew.cell? ⟨bh, 0, none⟩ = some (.int .i64 N)) := S5.out wj.drew (HK6.out.drewN 1) (HKH6.out.drewN 1)
          have SA := Lib.hid (S5.out _ KA5.out KAH.out)
          go_region_held3 (fun w' => w'.cell? ⟨g5, 0, none⟩ = some (.int .i64 (a : Int)) ∧ w'.cell? ⟨g5, 2, none⟩ = some (.int .i64 e.cost) ∧ w'.cell? ⟨bh, 0, none⟩ = some (.int .i64 N))
            (first | with_reducible exact SD.out | with_reducible exact SA.out | with_reducible exact S9.out)
            (first | (refine step_append_lies _ (by rfl) _ _ 32 (by rfl) w4.heap.size 43 i0 (.agg #[.int .i64 0, .slice none 0 0, .int .i64 0, .int .i64 0, .int .i64 0]) 5 56 Try.underlying32 hi0 hz0 hz1 hz2 rfl (by decide) (.slice A L.length cA) L.length (eds L) (by rfl) HOA.out ⟨wj.heap.size, 0, none⟩ 1 1 [.int .i64 (r : Nat), .slice tA m tc, .int .i64 e.cost, .int .i64 0, .int .i64 0] (by rfl) (by rfl) NEWS.out (by simp [Value.oneCell']) (by omega) (by unfold maxLen; omega) (by omega) HZB.out (wj.heap.size + 1) hsz.out ?_; intro gg cap w9 hown9 hgrow hat hlt9; have HOW9 := Lib.hid hown9; have X9 : Hid (Below w4.heap.size wj w9) := B8'.out.grown hgrow HZB.out (fun k hk => own_ge HOA.out hk); have HT9 := Lib.hid (HTA.out.grown HOA.out hgrow); have S9 := Lib.hid (S5.out w9 (KA5.out.grown hgrow (fun h => Nat.lt_irrefl _ (HAG.out _ h.symm))) (KAH.out.below ((Below.refl _ _).grown hgrow HZB.out (fun k hk => own_ge HOA.out hk)) HLB.out)); clear hown9 hgrow hat))
          all_goals
            go_wp2_with fail
            go_roundw
            case rel => exact ⟨i + 1, by omega, by go_num, L ++ [⟨r, ts', e.cost, 0, 0, tA, tc⟩], by rw [List.take_add_one, HEk.out]; exact HA.out.snoc HRN.out, (by rw [List.length_append, eds_append]; show World.ownsRow _ _ _ _ _ _ (_ ++ (Ed.cells ⟨r, ts', e.cost, 0, 0, tA, tc⟩ ++ [])); show World.ownsRow _ _ _ _ _ _ (_ ++ [.int .i64 (r : Nat), .slice tA ts'.length tc, .int .i64 e.cost, .int .i64 0, .int .i64 0]); rw [HLT'.out]; exact HOW9.out), HT9, HBZ.out.trans X9.out⟩
            case measure => simp [intOf]; omega
end Go.Proofs.Ytkeiakmfnammbaa
