/- The law KnuthFixpoint. -/
import Derived.Test.YtkeiakmfnammbaaKnLLess
import Derived.Test.YtkeiakmfnammbaaKnDeriv
import Derived.Deep.DeepCutAuto
namespace Go.Proofs.Ytkeiakmfnammbaa
open Go.RowKit

/-- What the second loop finds at a node. -/
theorem fix_node {es : List Ed} {V : List Vl} {N : Nat} {D : List Bool} (h : Sol es (gv V)) (hes : ∀ e ∈ es, e.Ok N) (hl : V.length = N) (hD : D.length = N) (hc : ClosK es D es.length) {i : Nat} (hi : i < N) :
    ((gv V i).c < 1099511627776 ∧ ∃ (j : Nat) (e : Ed), cho (gv V) es i = (j : Int) ∧ es[j]? = some e ∧ e.hd = (i : Int) ∧ D[i]? = some true) ∨ (gv V i = vtop ∧ cho (gv V) es i = -1) := by
  by_cases hf : (gv V i).c < 1099511627776
  · refine .inl ⟨hf, ?_⟩
    obtain ⟨e, he, h1, h2⟩ := h.attained hes hf
    obtain ⟨k, hk⟩ := List.getElem?_of_mem he
    obtain ⟨j, e', hj, he', h3, h4, _⟩ := cho_pos (cho_le hk h1 h2).1
    have hok := hes e' (List.mem_of_getElem? he')
    refine ⟨j, e', hj, he', by have := hok.hd; omega, ?_⟩
    apply Classical.byContradiction
    intro hn
    have hout := h.outside hes (fun n => D[n]?.getD false = true) (fun e he ht => by
      obtain ⟨k, hk⟩ := List.getElem?_of_mem he
      exact hc k e (List.getElem?_eq_some_iff.1 hk).1 hk (by unfold allD; rw [List.all_eq_true]; exact ht)) (i := i) (fun hx => hn (by
        rw [List.getElem?_eq_getElem (by omega)] at hx ⊢
        simpa using hx))
    rw [hout] at hf
    exact absurd hf (by decide)
  · refine .inr ⟨(h.nrm i).eq_top (by omega), ?_⟩
    by_cases h0 : 0 ≤ cho (gv V) es i
    · obtain ⟨k, e, _, _, h3, h4, _⟩ := cho_pos h0
      rw [att_iff, h3] at h4
      exact absurd h4.1 hf
    · have := (cho_bd (gv V) es i).1
      omega
set_option maxRecDepth 100000 in
set_option maxHeartbeats 8000000 in
theorem lawFix_any (Z : Int) (ce B : Nat) (E : Option Addr) (es : List Ed) (w : World) (hE : HG w B E es.length es) (hB : B ≤ w.heap.size) : Calls Try.prog 7 #[.agg #[.int .i64 Z, .slice E es.length ce]] w fun e w' => e = .returned (.bool true) ∧ Below w.heap.size w w' := by
  have HE := Lib.hid (hE.more hB)
  clear hE
  obtain ⟨M, hMM⟩ : ∃ M, es.length = M := ⟨_, rfl⟩
  rw [hMM] at HE ⊢
  have HMM := Lib.hid hMM
  clear hMM
  go_enter Try.func7, Try.ntmps7
  go_wp2_with fail
  obtain ⟨w1, hw1⟩ : ∃ w1, w.alloc (.cells #[.int .i64 Z, .slice E M ce] 34) = w1 := ⟨_, rfl⟩
  rw [hw1]
  obtain ⟨bh, hbh⟩ : ∃ bh, w.heap.size = bh := ⟨_, rfl⟩
  have HKH1 : Hid (Blk w1 bh 34 #[.int .i64 Z, .slice E M ce]) := by rw [← hw1]; exact Blk.new' w _ _ hbh
  have HB1 : Hid (Below w.heap.size w w1) := by rw [← hw1]; exact (Below.refl _ _).alloc (Nat.le_refl _) _
  try rw [hbh]
  clear hw1 hbh
  have hs := bounded_any w1 Z ce w.heap.size E es (by rw [HMM.out]; exact HE.out.below HB1.out) HB1.out.size
  rw [HMM.out] at hs
  refine hs.mono ?_
  rintro e w2 ⟨b, rfl, hb, hbw⟩
  have HBB := Lib.hid hb
  have HKH2 := Lib.hid (HKH1.out.below hbw HKH1.out.lt)
  have HB2 : Hid (Below w.heap.size w w2) := HB1.out.trans (hbw.mono HB1.out.size)
  clear hs hb hbw HKH1 HB1
  cases b with
  | false =>
    go_wp2_with fail
    refine (awake_any w2).mono ?_
    rintro e w3 ⟨rfl, hb3⟩
    go_wp2_with fail
    go_ret
    exact ⟨rfl, HB2.out.trans (hb3.mono HB2.out.size)⟩
  | true =>
    obtain ⟨N, hZ, hN1, hN2, hM, hok, _, _⟩ := HBB.out rfl
    rw [HMM.out] at hM
    subst hZ
    have HOK := Lib.hid hok
    have c0 : w2.cell? ⟨bh, 0, none⟩ = some (.int .i64 N) := HKH2.out.cell 0
    have c1 : w2.cell? ⟨bh, 1, none⟩ = some (.slice E M ce) := HKH2.out.cell 1
    clear hok HBB
    go_wp2_with fail
    have hs := solve_any w2 N ce w.heap.size E es (by rw [HMM.out]; exact HE.out.below HB2.out) HB2.out.size HOK.out hN2 (by rw [HMM.out]; exact hM)
    rw [HMM.out] at hs
    refine hs.mono ?_
    rintro e w3 ⟨va, ea, V, rfl, hVl, KV, KE, hsol, _, _, hbw⟩
    have HV := Lib.hid KV
    have HKE := Lib.hid KE
    have HS := Lib.hid (And.intro hsol hVl)
    have HKH3 := Lib.hid (HKH2.out.below hbw HKH2.out.lt)
    have HB3 : Hid (Below w.heap.size w w3) := HB2.out.trans (hbw.mono HB2.out.size)
    clear hs hsol hVl KV KE hbw c0 c1 HKH2 HB2
    have c0 : w3.cell? ⟨bh, 0, none⟩ = some (.int .i64 N) := HKH3.out.cell 0
    have c1 : w3.cell? ⟨bh, 1, none⟩ = some (.slice E M ce) := HKH3.out.cell 1
    have hqN : ((N : Int) != (N : Int)) = false := by simp
    go_wp2_with fail
    clear c0 c1 hqN
    have HQ := Lib.hid run_eql_vl
    go_loopw [5] (fun x wr => ∃ k : Nat, k ≤ M ∧ x = .int .i64 k ∧ Hid (Below w3.heap.size w3 wr)) (fun x _ => M - (intOf x).toNat)
    case atStart => exact ⟨0, Nat.zero_le _, rfl, Below.refl _ _⟩
    case round =>
      obtain ⟨k, hk, rfl, HBR⟩ := hrel
      have HKH4 := Lib.hid (HKH3.out.below HBR.out HKH3.out.lt)
      have HB4 : Hid (Below w.heap.size w wr) := HB3.out.trans (HBR.out.mono HB3.out.size)
      have HKV4 := Lib.hid (HV.out.below HBR.out HV.out.lt)
      have HKA4 := Lib.hid (HKE.out.below HBR.out HKE.out.lt)
      have c0 : wr.cell? ⟨bh, 0, none⟩ = some (.int .i64 N) := HKH4.out.cell 0
      have c1 : wr.cell? ⟨bh, 1, none⟩ = some (.slice E M ce) := HKH4.out.cell 1
      by_cases hlt : k < M
      case neg =>
        have hltD : decide (k < M) = false := by simp [hlt]
        obtain rfl : M = k := by omega
        go_wp2_with fail
        have hd := derivable_any wr N ce w.heap.size E es (by rw [HMM.out]; exact HE.out.below HB4.out) HB4.out.size HOK.out hN2 (by rw [HMM.out]; exact hM)
        rw [HMM.out] at hd
        refine hd.mono ?_
        rintro e w5 ⟨da, D, rfl, hDl, KD, hclos, _, hb5⟩
        have HKH5 := Lib.hid (HKH4.out.below hb5 HKH4.out.lt)
        have HB5 : Hid (Below w.heap.size w w5) := HB4.out.trans (hb5.mono HB4.out.size)
        have HKV5 := Lib.hid (HKV4.out.below hb5 HKV4.out.lt)
        have HKA5 := Lib.hid (HKA4.out.below hb5 HKA4.out.lt)
        have HKD5 := Lib.hid KD
        have HDD := Lib.hid (And.intro hDl hclos)
        have HE5 := Lib.hid (HE.out.below HB5.out)
        have hQ := run_neq_vl
        have HQN := Lib.hid hQ
        clear hd hDl hclos KD hb5 HKH4 HB4 HKV4 HKA4 c0 c1 hlt hltD hk HKH3 HB3 HV HKE HBR hQ
        go_wp2_with fail
        go_loopw [9] (fun x wr => ∃ i : Nat, i ≤ N ∧ x = .int .i64 i ∧ Hid (∃ n, wr = w5.drewN n)) (fun x _ => N - (intOf x).toNat)
        case atStart => exact ⟨0, Nat.zero_le _, rfl, drew0 _⟩
        case round =>
          obtain ⟨i, hi, rfl, HW⟩ := hrel
          obtain ⟨nw, rfl⟩ := HW.out
          have c0 : w5.cell? ⟨bh, 0, none⟩ = some (.int .i64 N) := HKH5.out.cell 0
          have c1 : w5.cell? ⟨bh, 1, none⟩ = some (.slice E M ce) := HKH5.out.cell 1
          by_cases hlt : i < N
          case neg =>
            have hltD : decide (i < N) = false := by simp [hlt]
            go_wp2_with fail
            refine (awake_any _).mono ?_
            rintro e w6 ⟨rfl, hb6⟩
            go_wp2_with fail
            go_ret
            exact ⟨rfl, (below_drewN HB5.out nw).trans (hb6.mono HB5.out.size)⟩
          case pos =>
            have hltD : decide (i < N) = true := by simp [hlt]
            obtain ⟨v, hv⟩ : ∃ v, gv V i = v := ⟨_, rfl⟩
            have hvi : V[i]? = some v := by rw [← hv, gv, List.getElem?_eq_getElem (by rw [HS.out.2]; exact hlt)]; rfl
            have hnode := fix_node HS.out.1 HOK.out HS.out.2 HDD.out.1 HDD.out.2 hlt
            rw [hv] at hnode
            have hch : (chs (gv V) es N)[i]? = some (cho (gv V) es i) := chs_at hlt
            obtain ⟨v0, v1⟩ := HKV5.out.vl_at hvi
            obtain ⟨dx, hdx⟩ : ∃ dx, D[i]? = some dx := ⟨_, List.getElem?_eq_getElem (by rw [HDD.out.1]; exact hlt)⟩
            have d0 := HKD5.out.bool_at hdx
            clear hv hvi
            rcases hnode with ⟨hf, j, e, hj, hej, heh, hdt⟩ | ⟨hv, hj⟩
            · have hfD : decide (v.c < 1099511627776) = true := by simp [hf]
              have hjM : j < M := by have := (List.getElem?_eq_some_iff.1 hej).1; have := HMM.out; omega
              have hjD : decide (M ≤ j) = false := by simp; omega
              have hjD2 : decide ((M : Int) ≤ (j : Int)) = false := by simp; omega
              obtain ⟨b', off, e', hE', hb', he', p0, _⟩ := HE5.out.at_ hjM
              rw [hej] at he'
              injection he' with he'
              subst he'
              rw [heh] at p0
              rw [hE'] at c1
              have x0 : w5.cell? ⟨ea, i, none⟩ = some (.int .i64 (j : Int)) := by rw [HKA5.out.cell]; simp [ints, hch, hj]
              obtain rfl : dx = true := by rw [hdt] at hdx; injection hdx with h; exact h.symm
              have hii : ((i : Int) != (i : Int)) = false := by simp
              have hjn : decide ((j : Int) < 0) = false := by simp
              have hjp : decide ((0 : Int) ≤ (j : Int)) = true := by simp
              clear hf hj hej heh hdt hch hdx hE'
              go_upto_region 17 with fail
              go_quiet (fail)
              go_wp2_with fail
              go_roundw
              case rel => exact ⟨i + 1, by omega, by go_num, drew1 _ _⟩
              case measure => simp [intOf]; omega
            · subst hv
              have x0 : w5.cell? ⟨ea, i, none⟩ = some (.int .i64 (-1)) := by rw [HKA5.out.cell]; simp [ints, hch, hj]
              have hjD2 : decide ((M : Int) ≤ (-1 : Int)) = false := by simp; omega
              have v0' : w5.cell? ⟨va, i * 2, none⟩ = some (.int .i64 1099511627776) := v0
              have v1' : w5.cell? ⟨va, i * 2 + 1, none⟩ = some (.int .i64 0) := v1
              have hQ := HQN.out
              clear hj hch hdx d0 v0 v1
              go_upto_region 17 with fail
              go_quiet (fail)
              go_wp2_with fail
              go_roundw
              case rel => exact ⟨i + 1, by omega, by go_num, drew1 _ _⟩
              case measure => simp [intOf]; omega
      case pos =>
        have hltD : decide (k < M) = true := by simp [hlt]
        obtain ⟨b', off, e, hE', hb', he, p0, p1, p2, p3, p4, hR⟩ := (HE.out.below HB4.out).at_ hlt
        subst hE'
        have HRd := Lib.hid hR
        have HEk := Lib.hid he
        have heok := HOK.out e (List.mem_of_getElem? he)
        obtain ⟨n, hn⟩ := Int.eq_ofNat_of_zero_le heok.hd.1
        have hnN : n < N := by have := heok.hd.2; omega
        have hbl : b' < wr.heap.size := by have := HB4.out.size; omega
        have HOKE := Lib.hid heok
        clear hR he heok
        rw [hn] at p0
        have HN := Lib.hid hn
        clear hn
        go_upto_region 10 with fail
        obtain ⟨w6, hw6⟩ : ∃ w6, wr.alloc (.cells #[.int .i64 (n : Nat), .slice e.A e.ts.length e.c, .int .i64 e.cost, .int .i64 e.l0, .int .i64 e.l1] 43) = w6 := ⟨_, rfl⟩
        obtain ⟨be, hbe⟩ : ∃ be, wr.heap.size = be := ⟨_, rfl⟩
        have HKE6 : Hid (Blk w6 be 43 #[.int .i64 (n : Nat), .slice e.A e.ts.length e.c, .int .i64 e.cost, .int .i64 e.l0, .int .i64 e.l1]) := by rw [← hw6, ← hbe]; exact Blk.new' wr _ _ rfl
        have hxb : Below wr.heap.size wr w6 := by rw [← hw6]; exact (Below.refl _ _).alloc (Nat.le_refl _) _
        have HBR6 : Hid (Below w3.heap.size w3 w6) := HBR.out.trans (hxb.mono HBR.out.size)
        have HKV5 := Lib.hid (HKV4.out.below hxb HKV4.out.lt)
        have HKA5 := Lib.hid (HKA4.out.below hxb HKA4.out.lt)
        have HB5 : Hid (Below w.heap.size w w6) := HB4.out.trans (hxb.mono HB4.out.size)
        have HRd5 := Lib.hid (HRd.out.below (hxb.mono HB4.out.size))
        rw [hw6, hbe]
        clear hw6 hbe hxb HKH4 HKV4 HKA4 HB4 HRd p0 p1 p2 p3 p4 hbl hb' c0 c1 HBR
        obtain ⟨vn, hvn⟩ : ∃ vn, gv V n = vn := ⟨_, rfl⟩
        have hvi : V[n]? = some vn := by rw [← hvn, gv, List.getElem?_eq_getElem (by rw [HS.out.2]; exact hnN)]; rfl
        obtain ⟨L, hL⟩ : ∃ L, tlv (gv V) e.ts = L := ⟨_, rfl⟩
        obtain ⟨y, hy⟩ : ∃ y, comb e.cost L = y := ⟨_, rfl⟩
        have hey : ev (gv V) e = y := by rw [← hy, ← hL]; rfl
        have hLl : L.length ≤ 4 := by rw [← hL]; simp only [tlv, List.length_map]; exact HOKE.out.few
        have HLO : Hid (∀ v ∈ L, Ordy v) := by rw [← hL]; exact tlv_ord HS.out.1.nrm e.ts
        have HT : Hid (∀ w9, Below w6.heap.size w6 w9 → Calls Try.prog 24 #[.agg #[.int .i64 (n : Nat), .slice e.A e.ts.length e.c, .int .i64 e.cost, .int .i64 e.l0, .int .i64 e.l1], .slice (some ⟨va, 0, none⟩) N N] w9 (RetVls L w9)) := fun w9 h9 => by
          rw [← hL]
          exact rtails_any w9 w6.heap.size N N (some ⟨va, 0, none⟩) V n e.cost e.l0 e.l1 e.A e.c e.ts ((Reads.of_blk HKV5.out HKV5.out.lt (by simp) (by rw [vls_length, HS.out.2])).below h9) ((HRd5.out.more HB5.out.size).below h9) h9.size HOKE.out.ts (by have := HOKE.out.few; omega)
        have HCB : Hid (∀ (w9 : World) (A : Option Addr) (c B : Nat), Reads w9 B 2 A L.length (vls L) → B ≤ w9.heap.size → Calls Try.prog 18 #[.int .i64 e.cost, .slice A L.length c] w9 fun e' w' => e' = .returned (.agg #[.int .i64 y.c, .int .i64 y.s]) ∧ Below w9.heap.size w9 w') := fun w9 A c B h1 h2 => by
          rw [← hy]
          exact rcombine_any e.cost A L.length c B L w9 h1 h2 HOKE.out.cost.1 HOKE.out.cost.2 HLO.out (by omega)
        have HY := Lib.hid hey
        have HVN := Lib.hid hvn
        have H9 : Hid (∀ w9, Below w6.heap.size w6 w9 → w9.cell? ⟨be, 0, none⟩ = some (.int .i64 (n : Nat)) ∧ w9.cell? ⟨be, 1, none⟩ = some (.slice e.A e.ts.length e.c) ∧ w9.cell? ⟨be, 2, none⟩ = some (.int .i64 e.cost) ∧ w9.cell? ⟨be, 3, none⟩ = some (.int .i64 e.l0) ∧ w9.cell? ⟨be, 4, none⟩ = some (.int .i64 e.l1) ∧ Below w6.heap.size w6 w9) := fun w9 h => by
          have K := HKE6.out.below h HKE6.out.lt
          exact ⟨K.cell 0, K.cell 1, K.cell 2, K.cell 3, K.cell 4, h⟩
        have B8 : Below w6.heap.size w6 w6.drew := (Below.refl _ _).drew
        have B8' : Below w6.heap.size w6 (w6.alloc (.cells #[.int .i64 0, .int .i64 0] 23)).drew := ((Below.refl _ w6).alloc (Nat.le_refl _) _).drew
        have Z8 : Blk (w6.alloc (.cells #[.int .i64 0, .int .i64 0] 23)).drew w6.heap.size 23 #[.int .i64 0, .int .i64 0] := (Blk.new' w6 23 #[.int .i64 0, .int .i64 0] (g := w6.heap.size) rfl).drew1
        have hz8 : w6.heap.size ≤ (w6.alloc (.cells #[.int .i64 0, .int .i64 0] 23)).drew.heap.size := B8'.size
        have hz8n := Z8.lt
        clear hvn hL hy hey
        go_cut [7] (fun x10 wx => ∃ g : Nat, x10 = .pointer (some ⟨g, 0, none⟩) ∧ Blk wx g 23 #[.int .i64 y.c, .int .i64 y.s] ∧ Below w6.heap.size w6 wx)
        case first =>
          go_region_held3 (fun w' => w'.cell? ⟨be, 0, none⟩ = some (.int .i64 (n : Nat)) ∧ w'.cell? ⟨be, 1, none⟩ = some (.slice e.A e.ts.length e.c) ∧ w'.cell? ⟨be, 2, none⟩ = some (.int .i64 e.cost) ∧ w'.cell? ⟨be, 3, none⟩ = some (.int .i64 e.l0) ∧ w'.cell? ⟨be, 4, none⟩ = some (.int .i64 e.l1) ∧ Below w6.heap.size w6 w')
            (first | exact H9.out _ B8 | exact H9.out _ B8' | exact H9.out _ X7 | exact H9.out _ (X7.alloc hz7 _) | exact H9.out _ X5 | exact H9.out _ (X5.alloc hz5 _) | exact H9.out _ ((X7.setCell (Nat.le_refl _) _).setCell (Nat.le_refl _) _) | exact H9.out _ ((X7.setCell hz5 _).setCell hz5 _))
            (first
              | (go_at_call 24; (with_reducible refine (HT.out _ B8).mono ?_); rintro e5 w5 ⟨A5, c5, rfl, r5, hb5⟩; have X5 : Below w6.heap.size w6 w5 := B8.trans (hb5.mono (Nat.le_refl _)); have hz5 : w6.heap.size ≤ w5.heap.size := X5.size)
              | (go_at_call 24; (with_reducible refine (HT.out _ B8').mono ?_); rintro e5 w5 ⟨A5, c5, rfl, r5, hb5⟩; have X5 : Below w6.heap.size w6 w5 := B8'.trans (hb5.mono hz8); have hz5 : w6.heap.size ≤ w5.heap.size := X5.size; have Z5 := Z8.below hb5 hz8n)
              | (go_at_call 18; (with_reducible refine (HCB.out _ A5 c5 w5.heap.size r5 (Nat.le_refl _)).mono ?_); rintro e7 w7 ⟨rfl, hb7⟩; have X7 : Below w6.heap.size w6 w7 := X5.trans (hb7.mono hz5); have hz7 : w6.heap.size ≤ w7.heap.size := X7.size; have Z7 := Z5.below hb7 Z5.lt; have n0 := Z7.cell 0; have n1 := Z7.cell 1; have m0 := Z7.frozen 0; have m1 := Z7.frozen 1; simp at n0 n1)
              | (go_at_call 18; (with_reducible refine (HCB.out _ A5 c5 w5.heap.size r5 (Nat.le_refl _)).mono ?_); rintro e7 w7 ⟨rfl, hb7⟩; have X7 : Below w6.heap.size w6 w7 := X5.trans (hb7.mono hz5); have hz7 : w6.heap.size ≤ w7.heap.size := X7.size)
              | (go_at_call 18; (with_reducible refine (HCB.out _ A5 c5 w5.heap.size (r5.alloc (Nat.le_refl _) _) (Below.size ((Below.refl w5.heap.size w5).alloc (Nat.le_refl _) _))).mono ?_); rintro e7 w7 ⟨rfl, hb7⟩; have X7 : Below w6.heap.size w6 w7 := (X5.alloc hz5 _).trans (hb7.mono (Nat.le_trans hz5 (Below.size ((Below.refl w5.heap.size w5).alloc (Nat.le_refl _) _)))); have hz7 : w6.heap.size ≤ w7.heap.size := X7.size; have Z7 := (Blk.new' w5 23 #[.int .i64 0, .int .i64 0] rfl).below hb7 (Blk.new' w5 23 #[.int .i64 0, .int .i64 0] rfl).lt; have n0 := Z7.cell 0; have n1 := Z7.cell 1; have m0 := Z7.frozen 0; have m1 := Z7.frozen 1; simp at n0 n1))
          all_goals
            go_wp2_with fail
            go_meet
            first
              | exact ⟨_, rfl, Blk.new' w7 _ _ rfl, X7.alloc hz7 _⟩
              | exact ⟨_, rfl, Z7.set2 _ _, (X7.setCell (Nat.le_refl _) _).setCell (Nat.le_refl _) _⟩
              | exact ⟨_, rfl, Z7.set2 _ _, (X7.setCell hz5 _).setCell hz5 _⟩
        case rest =>
          obtain ⟨g, rfl, KY, X7⟩ := hcut
          rename World => w8
          have HKE8 := Lib.hid (HKE6.out.below X7 HKE6.out.lt)
          have HKV8 := Lib.hid (HKV5.out.below X7 HKV5.out.lt)
          have HKA8 := Lib.hid (HKA5.out.below X7 HKA5.out.lt)
          have HBR8 : Hid (Below w3.heap.size w3 w8) := HBR6.out.trans (X7.mono HBR6.out.size)
          have HKY := Lib.hid KY
          clear H9 B8 B8' Z8 hz8 hz8n HT HCB HKE6 HKV5 HKA5 HB5 HRd5 KY X7 HBR6
          obtain ⟨ck, hck⟩ : ∃ ck, cho (gv V) es n = ck := ⟨_, rfl⟩
          have hch : (chs (gv V) es N)[n]? = some ck := by rw [chs_at hnN, hck]
          have x0 : w8.cell? ⟨ea, n, none⟩ = some (.int .i64 ck) := by rw [HKA8.out.cell]; simp [ints, hch]
          obtain ⟨v0, v1⟩ := HKV8.out.vl_at hvi
          have f0 := ext_cell (show w8.cell? ⟨g, 0, none⟩ = some (.int .i64 y.c) from HKY.out.cell 0)
          have f1 := ext_cell (show w8.cell? ⟨g, 1, none⟩ = some (.int .i64 y.s) from HKY.out.cell 1)
          have f2 := ext_cell (show w8.cell? ⟨be, 0, none⟩ = some (.int .i64 (n : Nat)) from HKE8.out.cell 0)
          have f3 := ext_cell v0
          have f4 := ext_cell v1
          have f5 := ext_cell x0
          have hnl : vlt y.c y.s vn.c vn.s = false := by
            cases h1 : vlt y.c y.s vn.c vn.s with
            | false => rfl
            | true =>
              have h2 := HS.out.1.pre e (List.mem_of_getElem? HEk.out)
              rw [HN.out, Int.toNat_natCast, HVN.out, HY.out] at h2
              exact absurd h2 (vlt_iff.1 h1)
          have HLS := rless_b hnl
          have hE := HQ.out
          have hle : y = vn → y.c < 1099511627776 → 0 ≤ ck ∧ ck ≤ k := fun h1 h2 => by
            rw [← hck]
            exact cho_le HEk.out (by rw [HN.out, Int.toNat_natCast]) (att_iff.2 ⟨by rw [HN.out, Int.toNat_natCast, HVN.out, ← h1]; exact h2, by rw [HN.out, Int.toNat_natCast, HVN.out, HY.out]; exact h1⟩)
          have HLE := Lib.hid hle
          clear v0 v1 x0 hck hch hvi hnl hle
          have hway : ((decide (y.c = vn.c) && decide (y.s = vn.s)) = false) ∨ ((decide (y.c = vn.c) && decide (y.s = vn.s)) = true ∧ decide (y.c < 1099511627776) = false) ∨ ((decide (y.c = vn.c) && decide (y.s = vn.s)) = true ∧ decide (y.c < 1099511627776) = true ∧ decide (ck < 0) = false ∧ decide ((k : Int) < ck) = false) := by
            cases h1 : (decide (y.c = vn.c) && decide (y.s = vn.s)) with
            | false => exact .inl rfl
            | true =>
              simp only [Bool.and_eq_true, decide_eq_true_eq] at h1
              by_cases h2 : y.c < 1099511627776
              · obtain ⟨h3, h4⟩ := HLE.out (Vl.ext' h1.1 h1.2) h2
                exact .inr (.inr ⟨rfl, by simp [h2], by simp; omega, by simp; omega⟩)
              · exact .inr (.inl ⟨rfl, by simp [h2]⟩)
          go_wp2_with fail
          rcases hway with h1 | ⟨h1, h2⟩ | ⟨h1, h2, h3, h4⟩
          all_goals
            refine wp_region_ext (by kernel_rfl) (by kernel_rfl) ?_
            repeat (go_big_quiet_step (with_reducible exact calls_ext (HLS.out _)))
            refine wpQuiet_nil ?_
            rintro _ ⟨u, rfl⟩
            clear f0 f1 f2 f3 f4 f5
            go_wp2_with fail
            go_roundw
            case rel => exact ⟨k + 1, by omega, by go_num, HBR8.out.trans (u.h.mono HBR8.out.size)⟩
            case measure => simp [intOf]; omega
end Go.Proofs.Ytkeiakmfnammbaa
