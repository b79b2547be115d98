/- The program's search for outside costs. -/
import Derived.Test.YtbalhkbpmahkgaaOMg
import Derived.StillTailTactics
import Derived.Deep.DeepCutAuto
namespace Go.Proofs.Ytbalhkbpmahkgaa
open Go.RowKit

def inff (N i : Nat) : List Int := List.replicate i 1099511627776 ++ List.replicate (N - i) 0
theorem inff_len {N i : Nat} (h : i ≤ N) : (inff N i).length = N := by simp [inff]; omega
theorem root_ways (N : Nat) (root : Int) : decide (root < 0) = true ∨ (decide (root < 0) = false ∧ decide ((N : Int) ≤ root) = true) ∨ ∃ r : Nat, root = (r : Int) ∧ r < N := by
  simp only [decide_eq_true_eq, decide_eq_false_iff_not]
  by_cases h1 : root < 0
  · exact .inl h1
  by_cases h2 : (N : Int) ≤ root
  · exact .inr (.inl ⟨h1, h2⟩)
  · exact .inr (.inr ⟨root.toNat, by omega, by omega⟩)
set_option maxRecDepth 100000 in
set_option maxHeartbeats 8000000 in
theorem outside_any (w : World) (N ce ci B : Nat) (E Ai : Option Addr) (es : List Ed) (il : List Int) (I : Nat → Int) (root : Int) (hE : HG w B E es.length es) (hB : B ≤ w.heap.size) (hes : ∀ e ∈ es, e.Ok N) (hN : N ≤ 30) (hN1 : 1 ≤ N) (hM : es.length ≤ 60)
    (hL : Reads w B 1 Ai N (ints il)) (hI : IsL il N I) (hIo : ∀ i, 0 ≤ I i ∧ I i ≤ 1099511627776) :
    Calls Try.prog 28 #[.agg #[.int .i64 N, .slice E es.length ce], .slice Ai N ci, .int .i64 root] w (RetL N (fun l => OSol es I root N (gi l)) w) := by
  have HE := Lib.hid (hE.more hB)
  have HOK := Lib.hid hes
  have HIL := Lib.hid (hL.more hB)
  have HIS := Lib.hid hI
  have HIO := Lib.hid hIo
  clear hE hes hL hI hIo
  obtain ⟨M, hMM⟩ : ∃ M, es.length = M := ⟨_, rfl⟩
  rw [hMM] at HE hM ⊢
  have HMM := Lib.hid hMM
  clear hMM
  have hmk := mk_ints N (by omega)
  have hmu := mk_urs N (by omega)
  go_enter Try.func28, Try.ntmps28
  go_wp2_with fail
  obtain ⟨w1, hw1⟩ : ∃ w1, (w.alloc (.cells #[.int .i64 N, .slice E M ce] 24)).alloc (.cells (ints (List.replicate N 0)).toArray 3) = w1 := ⟨_, rfl⟩
  obtain ⟨bh, hbh⟩ : ∃ bh, w.heap.size = bh := ⟨_, rfl⟩
  have HKH1 : Hid (Blk w1 bh 24 #[.int .i64 N, .slice E M ce]) := by rw [← hw1]; exact (Blk.new' w _ _ hbh).alloc _
  have HKO1 : Hid (Blk w1 (bh + 1) 3 (ints (inff N 0)).toArray) := by
    rw [← hw1]
    have : inff N 0 = List.replicate N 0 := by simp [inff]
    rw [this]
    exact Blk.new' _ _ _ (by simp; omega)
  have HB1 : Hid (Below w.heap.size w w1) := by rw [← hw1]; exact ((Below.refl _ _).alloc (Nat.le_refl _) _).alloc (by simp) _
  have HS1 : Hid (w1.heap.size = bh + 2) := by rw [← hw1, ← hbh]; exact Lib.hid (by simp)
  have HBH := Lib.hid hbh
  try rw [hw1]
  try rw [hbh]
  clear hw1 hbh
  go_loopw [26] (fun x wr => ∃ i : Nat, i ≤ N ∧ x = .int .i64 i ∧ Hid (Blk wr bh 24 #[.int .i64 N, .slice E M ce]) ∧ Hid (Blk wr (bh + 1) 3 (ints (inff N i)).toArray) ∧ Hid (Below w.heap.size w wr) ∧ Hid (wr.heap.size = bh + 2)) (fun x _ => N - (intOf x).toNat)
  case atStart => exact ⟨0, Nat.zero_le _, rfl, HKH1, HKO1, HB1, HS1⟩
  case round =>
    obtain ⟨i, hi, rfl, HKH2, HKO2, HB2, HS2⟩ := hrel
    clear HKH1 HKO1 HB1 HS1
    by_cases hlt : i < N
    case pos =>
      have hltD : decide (i < N) = true := by simp [hlt]
      obtain ⟨y, hy⟩ : ∃ y, (inff N i)[i]? = some y := ⟨_, List.getElem?_eq_getElem (by rw [inff_len hi]; exact hlt)⟩
      have x0 := HKO2.out.gint hy
      have y0 := HKO2.out.frozen i
      have hne : bh ≠ bh + 1 := by omega
      have hset : (inff N i).set i 1099511627776 = inff N (i + 1) := ini_set hlt
      have HKO3 := Lib.hid (HKO2.out.set_ints i 1099511627776)
      rw [hset] at HKO3
      have HKH3 : Hid (Blk (wr.setCell ⟨bh + 1, i, none⟩ (.int .i64 1099511627776)) bh 24 #[.int .i64 N, .slice E M ce]) := HKH2.out.far (p := ⟨bh + 1, i, none⟩) hne _
      have HB3 : Hid (Below w.heap.size w (wr.setCell ⟨bh + 1, i, none⟩ (.int .i64 1099511627776))) := HB2.out.setCell (p := ⟨bh + 1, i, none⟩) (by show w.heap.size ≤ bh + 1; have := HBH.out; omega) _
      have HS3 : Hid ((wr.setCell ⟨bh + 1, i, none⟩ (.int .i64 1099511627776)).heap.size = bh + 2) := by show _ = _; simp only [World.setCell]; simpa using HS2.out
      clear hy hset
      go_wp2_with fail
      go_roundw
      case rel => exact ⟨i + 1, by omega, by go_num, HKH3, HKO3, HB3, HS3⟩
      case measure => simp [intOf]; omega
    case neg =>
      have hltD : decide (i < N) = false := by simp [hlt]
      obtain rfl : N = i := by omega
      have he : inff N N = List.replicate N 1099511627776 := by simp [inff]
      rw [he] at HKO2
      have c0 : wr.cell? ⟨bh, 0, none⟩ = some (.int .i64 N) := HKH2.out.cell 0
      have c1 : wr.cell? ⟨bh, 1, none⟩ = some (.slice E M ce) := HKH2.out.cell 1
      have HNO : Hid ((∀ i : Nat, i < N → (i : Int) ≠ root) → RetL N (fun l => OSol es I root N (gi l)) w (.returned (.slice (some ⟨bh + 1, 0, none⟩) N N)) wr) := fun hr =>
        ⟨bh + 1, List.replicate N 1099511627776, rfl, by simp, HKO2.out, OSol.none hr (fun i => (HIO.out i).1) (fun e he => (HOK.out e he).cost.1) (gi_rep N), by have := HBH.out; omega, HB2.out⟩
      clear he hlt hi hmk
      go_upto_region 7 with fail
      rcases root_ways N root with h1 | ⟨h1, h2⟩ | ⟨r, rfl, hr⟩
      case inl =>
        have HR := Lib.hid (HNO.out (fun i _ h => by simp at h1; omega))
        clear HNO
        go_wp2_with fail
        go_ret
        exact HR.out
      case inr.inl =>
        have HR := Lib.hid (HNO.out (fun i hi h => by simp at h2; omega))
        clear HNO
        go_wp2_with fail
        go_ret
        exact HR.out
      have h1 : decide ((r : Int) < 0) = false := by simp
      have h2 : decide ((N : Int) ≤ (r : Int)) = false := by simp; omega
      have h2' : decide (N ≤ r) = false := by simp; omega
      have HRN := Lib.hid hr
      clear HNO
      go_upto_region 10 with fail
      obtain ⟨w4, hw4⟩ : ∃ w4, wr.alloc (.cells (ursC (List.replicate N noUr)).toArray 28) = w4 := ⟨_, rfl⟩
      have hua := HS2.out
      have hx4 : Below wr.heap.size wr w4 := by rw [← hw4]; exact (Below.refl _ _).alloc (Nat.le_refl _) _
      have HOB4 : Hid (OB w w4 bh (bh + 1) (bh + 2) (bh + 3) N M ce E (List.replicate N noUr)) := by
        refine ⟨HKH2.out.below hx4 HKH2.out.lt, HKO2.out.below hx4 HKO2.out.lt, ?_, ?_, by simp, HB2.out.trans (hx4.mono HB2.out.size), ?_, ?_⟩
        · rw [← hw4]; exact Blk.new' wr _ _ hua
        · exact URows.start w4 (bh + 3) N
        · rw [← hw4]; simp; omega
        · have := HBH.out
          exact ⟨by omega, by omega, by omega, by omega, by omega, by omega, by omega⟩
      try rw [hw4]
      try rw [hua]
      clear hw4 hx4 hmu hua h1 h2 h2' c0 HKH2 HKO2 HB2 HS2
      have c1 : w4.cell? ⟨bh, 1, none⟩ = some (.slice E M ce) := HOB4.out.kH.cell 1
      obtain ⟨ino, hino, hz0, hz1, hz2⟩ := info_parts infoI1
      go_wp2_with fail
      go_loopw [48] (fun x wr => ∃ k : Nat, k ≤ M ∧ x = .int .i64 k ∧ ∃ us : List Ur, Hid (OB w wr bh (bh + 1) (bh + 2) (bh + 3) N M ce E us) ∧ Hid (Uh N us es k)) (fun x _ => M - (intOf x).toNat)
      case atStart => exact ⟨0, Nat.zero_le _, rfl, _, HOB4, uh_start N es⟩
      case round =>
        obtain ⟨k, hk, rfl, us, HOB5, HU5⟩ := hrel
        clear HOB4 c1
        by_cases hlt : k < M
        case neg =>
          have hltD : decide (k < M) = false := by simp [hlt]
          obtain rfl : M = k := by omega
          have HUE : Hid (Uh N us es es.length) := by rw [HMM.out]; exact HU5
          clear hlt hk HU5 hino hz0 hz1 hz2 ino
          rename World => wq
          obtain ⟨bq, hbq⟩ : ∃ bq, wq.heap.size = bq := ⟨_, rfl⟩
          have HBQ : Hid (bh + 3 ≤ bq) := by rw [← hbq]; exact HOB5.out.sz
          go_wp2_with fail
          refine (Oq.newq_any wq).mono ?_
          rintro e w7 ⟨rfl, ⟨F, hq⟩, hb7⟩
          rw [hbq] at hq
          try rw [hbq]
          have HOM7 : Hid (OM wq w7 bq (bh + 1) (bq + 1) F (List.replicate N 1099511627776) [] 0) :=
            ⟨hq, HOB5.out.kO.below hb7 HOB5.out.kO.lt, Touch.of_below hb7, by have := HBQ.out; omega, hbq.symm⟩
          clear hq hb7 hbq
          have x0 := HOM7.out.kO.gint (k := r) (x := 1099511627776) (by rw [List.getElem?_replicate, if_pos HRN.out])
          have y0 := HOM7.out.kO.frozen r
          have HOM8 := Lib.hid (HOM7.out.put r 0)
          clear HOM7
          go_upto_region 17 with fail
          obtain ⟨w8, hw8⟩ : ∃ w8, w7.setCell ⟨bh + 1, r, none⟩ (.int .i64 0) = w8 := ⟨_, rfl⟩
          rw [hw8] at HOM8 ⊢
          clear hw8 x0 y0
          go_wp2_with fail
          refine (Oq.pushq_any 0 (r : Int) HOM8.out.hQ (by omega) (by omega)).mono ?_
          rintro e w9 ⟨rfl, G, hq9, hs9⟩
          have HOM9 : Hid (OM wq w9 bq (bh + 1) (bq + 1) G ((List.replicate N 1099511627776).set r 0) [⟨0, (r : Int), 0, 0⟩] 1) := HOM8.out.step hq9 hs9
          have HIV9 : Hid (OInv es I r N none ((List.replicate N 1099511627776).set r 0) [⟨0, (r : Int), 0, 0⟩] 0 (List.replicate N false)) := OInv.start HRN.out (fun i => (HIO.out i).1) (fun e he => (HOK.out e he).cost.1) _ rfl rfl
          have HNX9 : Hid (1 + pend es (List.replicate N false) es.length ≤ 241) := by
            have := pend_le (es := es) (D := List.replicate N false) (fun k => by
              unfold tln
              cases h : es[k]? with
              | none => simp
              | some e => exact (HOK.out e (List.mem_of_getElem? h)).few) es.length
            have := HMM.out
            show _ ≤ _
            omega
          clear hq9 hs9 HOM8
          go_wp2_with fail
          go_loopw [14] (fun _ wr => ∃ (G : Nat → Prop) (out : List Int) (L : List Oq.Ent) (nx : Nat) (Mc : Int) (D : List Bool), Hid (OM wq wr bq (bh + 1) (bq + 1) G out L nx) ∧ Hid (OInv es I r N none out L Mc D) ∧ Hid (nx + pend es D es.length ≤ 241)) (fun _ wr => measO wr (bh + 1) (bq + 1))
          case atStart => exact ⟨G, _, _, 1, 0, _, HOM9, HIV9, HNX9⟩
          case round =>
            obtain ⟨G, out, L, nx, Mc, D, HOM, HIV, HNX⟩ := hrel
            clear HOM9 HIV9 HNX9
            have HME := Lib.hid (measO_eq HOM.out)
            cases L with
            | nil => as_aux_lemma =>
              go_wp2_with fail
              refine (Oq.popq_none HOM.out.hQ).mono ?_
              rintro e w10 ⟨rfl, hb10⟩
              have HOM10 := Lib.hid (HOM.out.below hb10)
              clear hb10 HOM HME HNX
              have HOM11 := Lib.hid (HOM10.out.below ((Below.refl w10.heap.size w10).alloc (Nat.le_refl _) (.cells #[.int .i64 0, .int .i64 0] 67)))
              go_wp2_with fail
              go_ret
              exact ⟨bh + 1, out, rfl, HIV.out.len, HOM11.out.kO, HIV.out.done HOK.out, by have := HBH.out; omega, HOM11.out.low HOB5.out.low (by have := HBH.out; omega)⟩
            | cons y0 L0 =>
              go_wp2_with fail
              refine (Oq.popq_any HOM.out.hQ (by simp)).mono ?_
              rintro e w10 ⟨m, L1, hp, hmin, rfl, G1, hq, hs⟩
              have HOM10 := Lib.hid (HOM.out.step hq hs)
              obtain ⟨v, hv⟩ := Int.eq_ofNat_of_zero_le (HIV.out.ents m (hp.mem_iff.2 (by simp))).1
              have hvN : v < N := by have := (HIV.out.ents m (hp.mem_iff.2 (by simp))).2.1; omega
              have HPM := Lib.hid (And.intro hp hmin)
              have HLN : Hid ((y0 :: L0).length = L1.length + 1) := by rw [hp.length_eq]; exact Lib.hid rfl
              rw [hv]
              have HV := Lib.hid hv
              clear hp hmin hq hs hv
              go_upto_region 21 with fail
              obtain ⟨w11, hw11⟩ : ∃ w11, w10.alloc (.cells #[.int .i64 m.cost, .int .i64 (v : Nat)] 67) = w11 := ⟨_, rfl⟩
              obtain ⟨gx, hgx⟩ : ∃ gx, w10.heap.size = gx := ⟨_, rfl⟩
              have HPX11 : Hid (Oq.PB w11 G1 gx 67 #[.int .i64 m.cost, .int .i64 (v : Nat)]) := by rw [← hw11, ← hgx]; exact HOM10.out.hQ.new _ _
              have HOM11 : Hid (OM wq w11 bq (bh + 1) (bq + 1) G1 out L1 nx) := by rw [← hw11]; exact HOM10.out.below ((Below.refl _ _).alloc (Nat.le_refl _) _)
              have HGX : Hid (bh + 1 < gx) := by
                have h1 := HOM10.out.tch.size
                have h2 := HOM10.out.lt
                show bh + 1 < gx
                omega
              try rw [hw11]
              try rw [hgx]
              clear hw11 hgx HOM10 HOM
              obtain ⟨ov, hov⟩ : ∃ ov, out[v]? = some ov := ⟨_, List.getElem?_eq_getElem (by rw [HIV.out.len]; exact hvN)⟩
              have o0 := HOM11.out.kO.gint hov
              have x0 : w11.cell? ⟨gx, 0, none⟩ = some (.int .i64 m.cost) := HPX11.out.1.cell 0
              have x1 : w11.cell? ⟨gx, 1, none⟩ = some (.int .i64 (v : Nat)) := HPX11.out.1.cell 1
              have HGV : Hid (gi out v = ov) := gi_at hov
              clear hov
              by_cases hsk : ov < m.cost
              case pos => as_aux_lemma =>
                have hskD : decide (ov < m.cost) = true := by simp [hsk]
                have HIV2 : Hid (OInv es I r N none out L1 Mc D) := HIV.out.skip HPM.out.1 (by rw [HV.out, Int.toNat_natCast, HGV.out]; exact hsk)
                clear hsk
                go_quiet (fail)
                rename_i nq
                have HOM12 : Hid (OM wq (w11.drewN nq) bq (bh + 1) (bq + 1) G1 out L1 nx) := HOM11.out.below (below_drewN (Below.refl _ _) nq)
                go_wp2_with fail
                go_roundw
                case rel => exact ⟨G1, out, L1, nx, Mc, D, HOM12, HIV2, HNX⟩
                case measure =>
                  have h1 := measO_eq HOM12.out
                  have h2 := HME.out
                  have h3 := HLN.out
                  omega
              case neg => as_aux_lemma =>
                have hskD : decide (ov < m.cost) = false := by simp; omega
                obtain ⟨hmc, _, hnu, hiv⟩ := HIV.out.take HPM.out.1 HPM.out.2 HV.out (by rw [HGV.out]; exact hsk)
                have HIV2 := Lib.hid hiv
                have HMC := Lib.hid hmc
                have hpend := pend_set (es := es) (D := D) (v := v) (by rw [HIV.out.lenD]; exact hvN) hnu es.length
                have HPD := Lib.hid hpend
                have HUP : Hid (up (D.set v true) v) := by show (D.set v true)[v]? = some true; rw [List.getElem?_set, if_pos rfl, if_pos (by rw [HIV.out.lenD]; exact hvN)]
                obtain ⟨u, hu, hul⟩ := HUE.out v hvN
                have HUu := Lib.hid hu
                obtain ⟨uA, uc, ul⟩ := u
                have HUL : Hid (ul = rowv es v es.length) := hul
                obtain ⟨K, hK⟩ : ∃ K, ul.length = K := ⟨_, rfl⟩
                have HKK := Lib.hid hK
                have hKb : K ≤ 60 := by have := rowv_len es v es.length; have h2 := HUL.out; have := HMM.out; rw [← hK, h2]; omega
                have r0 : w11.cell? ⟨bh + 2, v, none⟩ = some (.slice uA ul.length uc) := by
                  have := (HOM11.out.blk HOB5.out.kU (by omega)).cell v
                  rw [this]
                  simp [ursC, hu]
                rw [hK] at r0
                obtain ⟨cc, hcc⟩ : ∃ cc, m.cost = cc := ⟨_, rfl⟩
                rw [hcc] at HIV2 HPX11 HMC x0 hskD ⊢
                obtain ⟨m0, hm0⟩ : ∃ m0, measO wr (bh + 1) (bq + 1) = m0 := ⟨_, rfl⟩
                have HM0 := Lib.hid hm0
                have HBND : Hid (2 * sumO out + L1.length < m0) := by have h1 := HME.out; have h3 := HLN.out; show _ < _; omega
                have HNX2 : Hid (nx + pend es (D.set v true) es.length + tsum es (ul.drop 0) ≤ 241) := by have h1 := HNX.out; have h2 := HPD.out; rw [HUL.out]; show _ ≤ _; simp only [List.drop_zero]; omega
                have HPR : Hid (gi out v = cc ∧ Pr es I out cc (ul.take 0)) := ⟨by rw [HMC.out], fun i hi => by simp at hi⟩
                clear hsk hiv hmc hnu hpend hu hul hK hcc hm0 HNX HPM HIV HPD HMC HLN HGV HME
                go_quiet (fail)
                rename_i nq
                obtain ⟨w12, hw12⟩ : ∃ w12, w11.drewN nq = w12 := ⟨_, rfl⟩
                have HOM12 : Hid (OM wq w12 bq (bh + 1) (bq + 1) G1 out L1 nx) := by rw [← hw12]; exact HOM11.out.below (below_drewN (Below.refl _ _) nq)
                have HPX12 : Hid (Oq.PB w12 G1 gx 67 #[.int .i64 cc, .int .i64 (v : Nat)]) := by rw [← hw12]; exact HPX11.out.below (below_drewN (Below.refl _ _) nq)
                have r1 : w12.cell? ⟨bh + 2, v, none⟩ = some (.slice uA K uc) := by rw [← hw12]; exact r0
                have x1 : w12.cell? ⟨gx, 1, none⟩ = some (.int .i64 (v : Nat)) := HPX12.out.1.cell 1
                try rw [hw12]
                clear hw12 HOM11 HPX11 r0 x0 o0 hskD
                go_wp2_with fail
                clear r1 x1
                go_loopw [96] (fun x wr => ∃ j : Nat, j ≤ K ∧ x = .int .i64 j ∧ ∃ (G : Nat → Prop) (out : List Int) (L : List Oq.Ent) (nx : Nat), Hid (OM wq wr bq (bh + 1) (bq + 1) G out L nx) ∧ Hid (OInv es I r N (some v) out L cc (D.set v true)) ∧ Hid (nx + pend es (D.set v true) es.length + tsum es (ul.drop j) ≤ 241) ∧ Hid (2 * sumO out + L.length < m0) ∧ Hid (gi out v = cc ∧ Pr es I out cc (ul.take j)) ∧ Hid (Oq.PB wr G gx 67 #[.int .i64 cc, .int .i64 (v : Nat)])) (fun x _ => K - (intOf x).toNat)
                case atStart => exact ⟨0, Nat.zero_le _, rfl, G1, out, L1, nx, HOM12, HIV2, HNX2, HBND, HPR, HPX12⟩
                case round =>
                  obtain ⟨j, hj, rfl, G, out, L, nx, HOM, HIV, HNX, HBD, HP, HPX⟩ := hrel
                  clear HOM12 HIV2 HNX2 HBND HPR HPX12
                  by_cases hlj : j < K
                  case neg => as_aux_lemma =>
                    have hljD : decide (j < K) = false := by simp [hlj]
                    obtain rfl : K = j := by omega
                    have HIV3 : Hid (OInv es I r N none out L cc (D.set v true)) := HIV.out.free (Pr.rx (by have h := HP.out.2; rw [← HKK.out, List.take_length, HUL.out] at h; exact h) HP.out.1)
                    have HNX3 : Hid (nx + pend es (D.set v true) es.length ≤ 241) := by have h := HNX.out; show _ ≤ _; omega
                    go_wp2_with fail
                    go_roundw
                    case rel => exact ⟨G, out, L, nx, cc, _, HOM, HIV3, HNX3⟩
                    case measure =>
                      have h1 := measO_eq HOM.out
                      have h2 := HM0.out
                      have h3 := HBD.out
                      omega
                  case pos => as_aux_lemma =>
                    have hljD : decide (j < K) = true := by simp [hlj]
                    obtain ⟨k, hk⟩ : ∃ k, ul[j]? = some k := ⟨_, List.getElem?_eq_getElem (by have := HKK.out; omega)⟩
                    have hkm : k < es.length ∧ hdn es k = v := rowv_mem (by rw [← HUL.out]; exact List.mem_of_getElem? hk)
                    have HR : Hid (Reads wr wr.heap.size 1 uA K (ints (ul.map fun k : Nat => (k : Int)))) := by
                      have h := HOM.out.own (HOB5.out.rows.own v _ HUu.out) (by omega)
                      have h2 : wr.ownsRow (bh + 3) 3 1 (.slice uA ul.length uc) ul.length (nats ul) := h
                      rw [HKK.out] at h2
                      exact Reads.of_own h2
                    obtain ⟨br, or', hA, hbr, q0⟩ := HR.out.int_at hlj
                    have hmk : (ul.map fun k : Nat => (k : Int))[j]? = some (k : Int) := by simp [hk]
                    rw [hmk] at q0
                    simp only [Option.getD_some] at q0
                    have HLOW : Hid (Below w.heap.size w wr) := HOM.out.low HOB5.out.low (by have := HBH.out; omega)
                    have hkM : k < M := by have := HMM.out; omega
                    obtain ⟨b, off, e, hE', hb, he, p0, p1, p2, p3, p4, hRt⟩ := (HE.out.below HLOW.out).at_ hkM
                    have hoke := HOK.out e (List.mem_of_getElem? he)
                    have HOKE := Lib.hid hoke
                    have HEk := Lib.hid he
                    have HHD : Hid (e.hd.toNat = v) := by have h := hkm.2; unfold hdn at h; rw [he] at h; exact Lib.hid h
                    have HJ := Lib.hid hk
                    have c1 : wr.cell? ⟨bh, 1, none⟩ = some (.slice E M ce) := (HOM.out.blk HOB5.out.kH (by omega)).cell 1
                    rw [hE'] at c1
                    obtain ⟨T, hT⟩ : ∃ T, e.ts.length = T := ⟨_, rfl⟩
                    obtain ⟨eA, heA⟩ : ∃ eA, e.A = eA := ⟨_, rfl⟩
                    have HRT : Hid (Reads w w.heap.size 1 eA T (ints e.ts)) := by
                      rw [← hT, ← heA]
                      exact (HE.out.at_ hkM).elim fun _ h => h.elim fun _ h => h.elim fun e' h => by
                        have h2 := h.2.2.1
                        rw [he] at h2
                        injection h2 with h2
                        subst h2
                        exact h.2.2.2.2.2.2.2.2
                    rw [hT, heA] at p1
                    have HTT := Lib.hid hT
                    have hT4 : T ≤ 4 := by rw [← hT]; exact hoke.few
                    have htl : tln es k = T := by unfold tln; rw [he]; exact hT
                    have HDR : Hid (tsum es (ul.drop j) = T + tsum es (ul.drop (j + 1))) := by
                      have hjl := (List.getElem?_eq_some_iff.1 hk)
                      obtain ⟨hj1, hj2⟩ := hjl
                      show _ = _
                      rw [List.drop_eq_getElem_cons hj1, hj2, tsum_cons, htl]
                    subst hA
                    clear hk hkm hmk hRt he hoke hE' hT heA htl
                    go_upto_region 26 with fail
                    obtain ⟨w14, hw14⟩ : ∃ w14, wr.alloc (.cells #[.int .i64 e.hd, .slice eA T e.c, .int .i64 e.cost, .int .i64 e.l0, .int .i64 e.l1] 48) = w14 := ⟨_, rfl⟩
                    obtain ⟨ge, hge⟩ : ∃ ge, wr.heap.size = ge := ⟨_, rfl⟩
                    have hxe : Below wr.heap.size wr w14 := by rw [← hw14]; exact (Below.refl _ _).alloc (Nat.le_refl _) _
                    have HPE4 : Hid (Oq.PB w14 G ge 48 #[.int .i64 e.hd, .slice eA T e.c, .int .i64 e.cost, .int .i64 e.l0, .int .i64 e.l1]) := by rw [← hw14, ← hge]; exact HOM.out.hQ.new _ _
                    have HOM4 := Lib.hid (HOM.out.below hxe)
                    have HPX4 := Lib.hid (HPX.out.below hxe)
                    have HGE : Hid (bh + 1 < ge) := by
                      have h1 := HOM.out.tch.size
                      have h2 := HOM.out.lt
                      show bh + 1 < ge
                      omega
                    have HNX4 : Hid (nx + pend es (D.set v true) es.length + tsum es (ul.drop (j + 1)) + (T - 0) ≤ 241) := by have h1 := HNX.out; have h2 := HDR.out; show _ ≤ _; omega
                    have HP4 : Hid (gi out v = cc ∧ Pr es I out cc (ul.take j) ∧ PrK e I out cc 0) := ⟨HP.out.1, HP.out.2, fun k hk => absurd hk (Nat.not_lt_zero _)⟩
                    try rw [hw14]
                    try rw [hge]
                    clear hw14 hge hxe HOM HPX HNX HP HR HLOW q0 hbr p0 p1 p2 p3 p4 hb c1 HDR
                    have e1 : w14.cell? ⟨ge, 1, none⟩ = some (.slice eA T e.c) := HPE4.out.1.cell 1
                    go_wp2_with fail
                    clear e1
                    go_loopw [108] (fun x wr => ∃ n : Nat, n ≤ T ∧ x = .int .i64 n ∧ ∃ (G : Nat → Prop) (out : List Int) (L : List Oq.Ent) (nx : Nat), Hid (OM wq wr bq (bh + 1) (bq + 1) G out L nx) ∧ Hid (OInv es I r N (some v) out L cc (D.set v true)) ∧ Hid (nx + pend es (D.set v true) es.length + tsum es (ul.drop (j + 1)) + (T - n) ≤ 241) ∧ Hid (2 * sumO out + L.length < m0) ∧ Hid (gi out v = cc ∧ Pr es I out cc (ul.take j) ∧ PrK e I out cc n) ∧ Hid (Oq.PB wr G gx 67 #[.int .i64 cc, .int .i64 (v : Nat)]) ∧ Hid (Oq.PB wr G ge 48 #[.int .i64 e.hd, .slice eA T e.c, .int .i64 e.cost, .int .i64 e.l0, .int .i64 e.l1])) (fun x _ => T - (intOf x).toNat)
                    case atStart => exact ⟨0, Nat.zero_le _, rfl, G, out, L, nx, HOM4, HIV, HNX4, HBD, HP4, HPX4, HPE4⟩
                    case round =>
                      obtain ⟨n, hn, rfl, G, out, L, nx, HOM, HIV, HNX, HBD, HP, HPX, HPE⟩ := hrel
                      clear HOM4 HNX4 HP4 HPX4 HPE4
                      by_cases hln : n < T
                      case neg => as_aux_lemma =>
                        have hlnD : decide (n < T) = false := by simp [hln]
                        obtain rfl : T = n := by omega
                        have HP5 : Hid (gi out v = cc ∧ Pr es I out cc (ul.take (j + 1))) := ⟨HP.out.1, by rw [List.take_add_one, HJ.out]; exact HP.out.2.1.snoc HEk.out (by rw [HTT.out]; exact HP.out.2.2)⟩
                        have HNX5 : Hid (nx + pend es (D.set v true) es.length + tsum es (ul.drop (j + 1)) ≤ 241) := by have h1 := HNX.out; show _ ≤ _; omega
                        go_wp2_with fail
                        go_roundw
                        case rel => exact ⟨j + 1, by omega, by go_num, G, out, L, nx, HOM, HIV, HNX5, HBD, HP5, HPX⟩
                        case measure => simp [intOf]; omega
                      case pos => as_aux_lemma =>
                        have hlnD : decide (n < T) = true := by simp [hln]
                        have HLOW : Hid (Below w.heap.size w wr) := HOM.out.low HOB5.out.low (by have := HBH.out; omega)
                        obtain ⟨bt, ot, hA, hbt, q0⟩ := (HRT.out.below HLOW.out).int_at hln
                        obtain ⟨t', hti⟩ : ∃ t', e.ts[n]? = some t' := ⟨_, List.getElem?_eq_getElem (by have := HTT.out; omega)⟩
                        rw [hti] at q0
                        simp only [Option.getD_some] at q0
                        obtain ⟨t0, t1⟩ := HOKE.out.ts t' (List.mem_of_getElem? hti)
                        obtain ⟨t, rfl⟩ := Int.eq_ofNat_of_zero_le t0
                        have htN : t < N := by omega
                        have HTI := Lib.hid hti
                        subst hA
                        have HCO : Hid (∀ w9, Below wr.heap.size wr w9 → Calls Try.prog 33 #[.agg #[.int .i64 e.hd, .slice (some ⟨bt, ot, none⟩) T e.c, .int .i64 e.cost, .int .i64 e.l0, .int .i64 e.l1], .slice Ai N ci, .int .i64 n] w9 fun e' w' => e' = .returned (.int .i64 (mn (oth I e.ts n e.ts.length))) ∧ Below w9.heap.size w9 w') := fun w9 h9 => by
                          have hb9 : Below w.heap.size w w9 := HLOW.out.trans (h9.mono HLOW.out.size)
                          have h := others_any w9 w.heap.size N ci Ai il I e.hd e.cost e.l0 e.l1 (some ⟨bt, ot, none⟩) e.c e.ts n (HIL.out.below hb9) HIS.out HIO.out (by rw [HTT.out]; exact HRT.out.below hb9) hb9.size HOKE.out.ts (by have := HTT.out; omega)
                          rw [HTT.out] at h
                          rw [HTT.out]
                          exact h
                        have H9 : Hid (∀ w9, Below wr.heap.size wr w9 → w9.cell? ⟨gx, 0, none⟩ = some (.int .i64 cc) ∧ w9.cell? ⟨ge, 0, none⟩ = some (.int .i64 e.hd) ∧ w9.cell? ⟨ge, 1, none⟩ = some (.slice (some ⟨bt, ot, none⟩) T e.c) ∧ w9.cell? ⟨ge, 2, none⟩ = some (.int .i64 e.cost) ∧ w9.cell? ⟨ge, 3, none⟩ = some (.int .i64 e.l0) ∧ w9.cell? ⟨ge, 4, none⟩ = some (.int .i64 e.l1) ∧ Below wr.heap.size wr w9) := fun w9 h => by
                          have Ka := HPX.out.1.below h HPX.out.1.lt
                          have Kb := HPE.out.1.below h HPE.out.1.lt
                          exact ⟨Ka.cell 0, Kb.cell 0, Kb.cell 1, Kb.cell 2, Kb.cell 3, Kb.cell 4, h⟩
                        have B8 : Below wr.heap.size wr wr.drew := (Below.refl _ _).drew
                        obtain ⟨oo, hoo⟩ : ∃ oo, mn (oth I e.ts n e.ts.length) = oo := ⟨_, rfl⟩
                        rw [hoo] at HCO
                        have HOO : Hid (0 ≤ oo ∧ oo ≤ 1099511627776) := by rw [← hoo]; exact ⟨mn_nn (oth_nn (fun i => (HIO.out i).1) _ _ _), mn_le _⟩
                        have hcc : 0 ≤ cc ∧ cc ≤ 1099511627776 := by rw [← HP.out.1]; exact HIV.out.ord v
                        have HCC := Lib.hid hcc
                        obtain ⟨rr, hrr⟩ : ∃ rr, rl I cc e n = rr := ⟨_, rfl⟩
                        have HSUM : Hid (mn ([cc, e.cost, oo] : List Int).sum = rr) := by
                          have h1 := oth_nn (fun i => (HIO.out i).1) e.ts n e.ts.length
                          have h2 := HOKE.out.cost
                          rw [← hrr, ← hoo]
                          unfold rl mn
                          simp only [List.sum_cons, List.sum_nil]
                          exact Lib.hid (by omega)
                        have HRR := Lib.hid hrr
                        clear hti t0 t1 hoo hcc hrr hbt
                        go_upto_region 29 with fail
                        clear q0
                        go_cut [20] (fun x20 wx => x20 = .int .i64 rr ∧ Below wr.heap.size wr wx)
                        case first =>
                          go_region_held3 (fun w9 => w9.cell? ⟨gx, 0, none⟩ = some (.int .i64 cc) ∧ w9.cell? ⟨ge, 0, none⟩ = some (.int .i64 e.hd) ∧ w9.cell? ⟨ge, 1, none⟩ = some (.slice (some ⟨bt, ot, none⟩) T e.c) ∧ w9.cell? ⟨ge, 2, none⟩ = some (.int .i64 e.cost) ∧ w9.cell? ⟨ge, 3, none⟩ = some (.int .i64 e.l0) ∧ w9.cell? ⟨ge, 4, none⟩ = some (.int .i64 e.l1) ∧ Below wr.heap.size wr w9)
                            (first | exact H9.out _ B8 | exact H9.out _ X5 | exact H9.out _ (X5.alloc hz5 _))
                            (first
                              | (go_at_call 33; (with_reducible refine (HCO.out _ B8).mono ?_); rintro e5 w5 ⟨rfl, hb5⟩; have X5 : Below wr.heap.size wr w5 := B8.trans (hb5.mono (Nat.le_refl _)); have hz5 : wr.heap.size ≤ w5.heap.size := X5.size)
                              | (go_at_call 32; refine (sum_any (w5.alloc (.cells #[.int .i64 cc, .int .i64 e.cost, .int .i64 oo] 3)) (w5.heap.size + 1) 3 3 (some ⟨w5.heap.size, 0, none⟩) [cc, e.cost, oo] (Reads.of_blk (Blk.new' w5 _ _ rfl) (by omega) rfl rfl) (by intro x hx; simp at hx; rcases hx with rfl | rfl | rfl; exact HCC.out; exact HOKE.out.cost; exact HOO.out) (by decide)).mono ?_; rintro e7 w7 ⟨rfl, rfl⟩))
                          all_goals
                            go_wp2_with fail
                            go_meet
                            exact ⟨by first | rw [HSUM.out] | (have := HSUM.out; simpa using this), X5.alloc hz5 _⟩
                        case rest =>
                          obtain ⟨rfl, X7⟩ := hcut
                          rename World => w8
                          have HOM8 := Lib.hid (HOM.out.below X7)
                          have HPX8 := Lib.hid (HPX.out.below X7)
                          have HPE8 := Lib.hid (HPE.out.below X7)
                          clear H9 B8 HCO HLOW HOM HPX HPE X7
                          obtain ⟨ov, hov⟩ : ∃ ov, out[t]? = some ov := ⟨_, List.getElem?_eq_getElem (by rw [HIV.out.len]; exact htN)⟩
                          have x0 := HOM8.out.kO.gint hov
                          have hgt : gi out t = ov := gi_at hov
                          have HGT := Lib.hid hgt
                          have HOV := Lib.hid hov
                          clear hov hgt
                          by_cases hlow : rr < ov
                          case neg => as_aux_lemma =>
                            have hlowD : decide (rr < ov) = false := by simp; omega
                            have HP5 : Hid (gi out v = cc ∧ Pr es I out cc (ul.take j) ∧ PrK e I out cc (n + 1)) := ⟨HP.out.1, HP.out.2.1, HP.out.2.2.snoc HTI.out (by rw [Int.toNat_natCast, HGT.out, HRR.out]; omega)⟩
                            have HNX5 : Hid (nx + pend es (D.set v true) es.length + tsum es (ul.drop (j + 1)) + (T - (n + 1)) ≤ 241) := by have h1 := HNX.out; show _ ≤ _; omega
                            clear hlow HSUM
                            go_wp2_with fail
                            go_roundw
                            case rel => exact ⟨n + 1, by omega, by go_num, G, out, L, nx, HOM8, HIV, HNX5, HBD, HP5, HPX8, HPE8⟩
                            case measure => simp [intOf]; omega
                          case pos => as_aux_lemma =>
                            have hlowD : decide (rr < ov) = true := by simp [hlow]
                            have hrg : rl I cc e n < gi out t := by rw [HRR.out, HGT.out]; exact hlow
                            have hlw := HIV.out.lower (x := (⟨rr, (t : Int), nx, nx⟩ : Oq.Ent)) HP.out.1 HUP.out (fun i => (HIO.out i).1) (List.mem_of_getElem? HEk.out) HHD.out HOKE.out.cost.1 HTI.out htN hrg HRR.out.symm rfl
                            have hmono := gi_lower (by rw [HIV.out.len]; exact htN) hrg
                            rw [HRR.out] at hlw hmono
                            have HLW := Lib.hid hlw
                            have HP5 : Hid (gi (out.set t rr) v = cc ∧ Pr es I (out.set t rr) cc (ul.take j) ∧ PrK e I (out.set t rr) cc (n + 1)) := by
                              have hs := gi_set (l := out) (t := t) (by rw [HIV.out.len]; exact htN) rr
                              refine ⟨?_, HP.out.2.1.mono hmono, (HP.out.2.2.mono hmono).snoc HTI.out ?_⟩
                              · rw [hs, if_neg HLW.out.1]; exact HP.out.1
                              · rw [Int.toNat_natCast, hs, if_pos rfl, HRR.out]; exact Int.le_refl _
                            have hr0 : 0 ≤ rr := by rw [← HRR.out]; unfold rl; exact mn_nn (by have := HCC.out.1; have := HOKE.out.cost.1; have := oth_nn (fun i => (HIO.out i).1) e.ts n e.ts.length; omega)
                            have hss := sumO_set (y := rr) HOV.out
                            have HBD5 : Hid (2 * sumO (out.set t rr) + (L ++ [(⟨rr, (t : Int), nx, nx⟩ : Oq.Ent)]).length < m0) := by
                              have h1 := HBD.out
                              have h2 : rr.toNat < ov.toNat := by omega
                              rw [List.length_append]
                              show 2 * sumO (out.set t rr) + (L.length + 1) < m0
                              omega
                            have HNX5 : Hid (nx + 1 + pend es (D.set v true) es.length + tsum es (ul.drop (j + 1)) + (T - (n + 1)) ≤ 241) := by have h1 := HNX.out; show _ ≤ _; omega
                            have hnx : nx < 100000000 := by have h1 := HNX.out; omega
                            have y0 := HOM8.out.kO.frozen t
                            have HOM9 := Lib.hid (HOM8.out.put t rr)
                            have HPX9 : Hid (Oq.PB (w8.setCell ⟨bh + 1, t, none⟩ (.int .i64 rr)) G gx 67 #[.int .i64 cc, .int .i64 (v : Nat)]) := ⟨HPX8.out.1.far (p := ⟨bh + 1, t, none⟩) (by have := HGX.out; show gx ≠ bh + 1; omega) _, HPX8.out.2⟩
                            have HPE9 : Hid (Oq.PB (w8.setCell ⟨bh + 1, t, none⟩ (.int .i64 rr)) G ge 48 #[.int .i64 e.hd, .slice (some ⟨bt, ot, none⟩) T e.c, .int .i64 e.cost, .int .i64 e.l0, .int .i64 e.l1]) := ⟨HPE8.out.1.far (p := ⟨bh + 1, t, none⟩) (by have := HGE.out; show ge ≠ bh + 1; omega) _, HPE8.out.2⟩
                            clear hlow HSUM hrg hlw hmono hr0 hss HOM8 HPX8 HPE8
                            go_upto_region 32 with fail
                            obtain ⟨w9, hw9⟩ : ∃ w9, w8.setCell ⟨bh + 1, t, none⟩ (.int .i64 rr) = w9 := ⟨_, rfl⟩
                            rw [hw9] at HOM9 HPX9 HPE9 ⊢
                            clear hw9 x0 y0
                            go_wp2_with fail
                            refine (Oq.pushq_any rr (t : Int) HOM9.out.hQ hnx hnx).mono ?_
                            rintro e' w15 ⟨rfl, G5, hq5, hs5⟩
                            have HOM5 := Lib.hid (HOM9.out.step hq5 hs5)
                            have HPX5 := Lib.hid (HPX9.out.step hs5)
                            have HPE5 := Lib.hid (HPE9.out.step hs5)
                            have HIV5 := Lib.hid HLW.out.2
                            clear hq5 hs5 HOM9 HPX9 HPE9 HLW
                            go_wp2_with fail
                            go_roundw
                            case rel => exact ⟨n + 1, by omega, by go_num, G5, _, _, nx + 1, HOM5, HIV5, HNX5, HBD5, HP5, HPX5, HPE5⟩
                            case measure => simp [intOf]; omega
        case pos => as_aux_lemma =>
          have hltD : decide (k < M) = true := by simp [hlt]
          obtain ⟨b, off, e, hE', hb, he, p0, p1, p2, p3, p4, hRt⟩ := (HE.out.below HOB5.out.low).at_ hlt
          have hoke := HOK.out e (List.mem_of_getElem? he)
          obtain ⟨t, ht⟩ := Int.eq_ofNat_of_zero_le hoke.hd.1
          have htN : t < N := by have := hoke.hd.2; omega
          rw [ht] at p0
          have HT : Hid (hdn es k = t) := by show _ = _; simp [hdn, he, ht]
          subst hE'
          clear hRt he hoke ht
          go_upto_region 13 with fail
          obtain ⟨w6, hw6⟩ : ∃ w6, wr.alloc (.cells #[.int .i64 (t : Nat), .slice e.A e.ts.length e.c, .int .i64 e.cost, .int .i64 e.l0, .int .i64 e.l1] 48) = w6 := ⟨_, rfl⟩
          obtain ⟨be, hbe⟩ : ∃ be, wr.heap.size = be := ⟨_, rfl⟩
          have HKE6 : Hid (Blk w6 be 48 #[.int .i64 (t : Nat), .slice e.A e.ts.length e.c, .int .i64 e.cost, .int .i64 e.l0, .int .i64 e.l1]) := by rw [← hw6, ← hbe]; exact Blk.new' wr _ _ rfl
          have hxb : Below wr.heap.size wr w6 := by rw [← hw6]; exact (Below.refl _ _).alloc (Nat.le_refl _) _
          have HOB6 := Lib.hid (HOB5.out.below hxb)
          try rw [hw6]
          try rw [hbe]
          clear hw6 hbe hxb HOB5 p0 p1 p2 p3 p4 hb
          obtain ⟨u, hu, hul⟩ := HU5.out t htN
          have HUu := Lib.hid hu
          obtain ⟨uA, uc, ul⟩ := u
          obtain ⟨m, hm⟩ : ∃ m, ul.length = m := ⟨_, rfl⟩
          have HMl := Lib.hid hm
          have hml : m ≤ 60 := by
            have := rowv_len es t k
            have h2 : ul = rowv es t k := hul
            rw [← hm, h2]
            omega
          have u0 : w6.cell? ⟨bh + 2, t, none⟩ = some (.slice uA ul.length uc) := HOB6.out.row_at HUu.out
          rw [hm] at u0
          have hxa : Below w6.heap.size w6 ((w6.alloc (.cells #[.int .i64 k] 3)).drew) := below_drew1 ((Below.refl _ _).alloc (Nat.le_refl _) _)
          have HOBA : Hid (OB w ((w6.alloc (.cells #[.int .i64 k] 3)).drew) bh (bh + 1) (bh + 2) (bh + 3) N M ce (some ⟨b, off, none⟩) us) := HOB6.out.below hxa
          have uz : ((w6.alloc (.cells #[.int .i64 k] 3)).drew).frozen? ⟨bh + 2, t, none⟩ = false := HOBA.out.kU.frozen t
          have u0a : (w6.alloc (.cells #[.int .i64 k] 3)).cell? ⟨bh + 2, t, none⟩ = some (.slice uA m uc) := by
            have : ((w6.alloc (.cells #[.int .i64 k] 3)).drew).cell? ⟨bh + 2, t, none⟩ = some (.slice uA ul.length uc) := HOBA.out.row_at HUu.out
            rw [hm] at this
            exact this
          have HOA : Hid (((w6.alloc (.cells #[.int .i64 k] 3)).drew).ownsRow (bh + 3) 3 1 (.slice uA m uc) m (nats ul)) := by
            have : ((w6.alloc (.cells #[.int .i64 k] 3)).drew).ownsRow (bh + 3) 3 1 (.slice uA ul.length uc) ul.length (nats ul) := HOBA.out.rows.own t _ HUu.out
            rw [hm] at this
            exact this
          have NEWS : Hid (∀ j v, ([.int .i64 (k : Nat)] : List Value)[j]? = some v → ((w6.alloc (.cells #[.int .i64 k] 3)).drew).cell? ((⟨w6.heap.size, 0, none⟩ : Addr).add j) = some v) := fun j v hv => by
            rw [Addr.add_lit, Nat.zero_add]
            have h := (Blk.new' w6 3 #[.int .i64 (k : Nat)] rfl).cell j
            refine Eq.trans h ?_
            rw [← Array.getElem?_toList]
            exact hv
          have hsz : Hid (((w6.alloc (.cells #[.int .i64 k] 3)).drew).heap.size = w6.heap.size + 1) := by show (w6.alloc _).heap.size = _; simp
          have HZB : Hid (bh + 3 ≤ ((w6.alloc (.cells #[.int .i64 k] 3)).drew).heap.size) := HOBA.out.sz
          have HKEA : Hid (Blk ((w6.alloc (.cells #[.int .i64 k] 3)).drew) be 48 #[.int .i64 (t : Nat), .slice e.A e.ts.length e.c, .int .i64 e.cost, .int .i64 e.l0, .int .i64 e.l1]) := HKE6.out.below hxa HKE6.out.lt
          have e0 : w6.cell? ⟨be, 0, none⟩ = some (.int .i64 (t : Nat)) := HKE6.out.cell 0
          have HFA := Lib.hid (show w6.drew.cell? ⟨be, 0, none⟩ = some (.int .i64 (t : Nat)) from e0)
          have HFB1 := Lib.hid (show ((w6.alloc (.cells #[.int .i64 k] 3)).drew).cell? ⟨be, 0, none⟩ = some (.int .i64 (t : Nat)) from HKEA.out.cell 0)
          have HNB : Hid (¬ bh + 2 = be) := fun h => (Blk.ne_ HOB6.out.kU HKE6.out (by decide)) h
          clear e0 hm hul hxa
          simp only [ldU_eq]
          go_region_held3 (fun w' => w'.cell? ⟨be, 0, none⟩ = some (.int .i64 (t : Nat)))
            (first | with_reducible exact HFA.out | with_reducible exact HFB1.out | with_reducible exact HFC1.out | with_reducible exact HFD1.out)
            (first | (refine step_append_lies _ (by rfl) _ _ 28 (by rfl) (bh + 3) 3 ino (.int .i64 0) 1 8 Try.underlying28 hino hz0 hz1 hz2 rfl (by decide) (.slice uA m uc) m (nats ul) (by rfl) HOA.out ⟨w6.heap.size, 0, none⟩ 1 1 [.int .i64 (k : Nat)] (by rfl) (by rfl) NEWS.out (by simp [Value.oneCell']) (by omega) (by unfold maxLen; omega) (by omega) HZB.out (w6.heap.size + 1) hsz.out ?_; intro gg cap w9 hown9 hgrow hat hlt9; have hap := OB.append (t := t) (k := k) (u := ⟨uA, uc, ul⟩) HOBA.out HUu.out (by show World.grownBy _ _ (Value.slice uA ul.length uc).ownBlock; rw [HMl.out]; exact hgrow) (by show World.ownsRow _ _ _ _ (.slice (some ⟨gg, 0, none⟩) (ul.length + 1) cap) (ul.length + 1) _; rw [HMl.out]; exact hown9) (by show (Value.slice uA ul.length uc).ownBlock = _ ∨ _; rw [HMl.out, hsz.out]; rcases hat with h | h; exact .inl h; exact .inr (by omega)); dsimp only at hap; rw [HMl.out] at hap; obtain ⟨hob9, hB9⟩ := hap; have HOB9 := Lib.hid hob9; have KE9 := HKEA.out.grown hgrow (fun h => own_blk_ne HOA.out HKEA.out (by decide) h.symm); have u9 : w9.cell? ⟨bh + 2, t, none⟩ = some (.slice uA m uc) := (hB9.cell (p := ⟨bh + 2, t, none⟩) (by show bh + 2 < bh + 3; omega)).trans u0a; have z9 : w9.frozen? ⟨bh + 2, t, none⟩ = false := (HOBA.out.kU.below hB9 (by omega)).frozen t; have HFC1 := Lib.hid (show w9.cell? ⟨be, 0, none⟩ = some (.int .i64 (t : Nat)) from KE9.cell 0); have HFD1 := Lib.hid (show (w9.setCell ⟨bh + 2, t, none⟩ (.slice (some ⟨gg, 0, none⟩) (m + 1) cap)).cell? ⟨be, 0, none⟩ = some (.int .i64 (t : Nat)) from (World.cell?_setCell_far _ _ _ _ (fun h => HNB.out h)).trans HFC1.out); clear hob9 hB9 hown9 hgrow hat hlt9 KE9))
          all_goals
            have HU9 : Hid (Uh N (us.set t ⟨some ⟨gg, 0, none⟩, cap, ul ++ [k]⟩) es (k + 1)) := uh_step HU5.out HT.out htN HUu.out _ _
            go_wp2_with fail
            go_roundw
            case rel => exact ⟨k + 1, by omega, by go_num, us.set t ⟨some ⟨gg, 0, none⟩, cap, ul ++ [k]⟩, HOB9, HU9⟩
            case measure => simp [intOf]; omega
end Go.Proofs.Ytbalhkbpmahkgaa
