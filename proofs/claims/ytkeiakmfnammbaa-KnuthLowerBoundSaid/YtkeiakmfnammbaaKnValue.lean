/- The reference's Value of a derivation: what it answers with yes is not below the least value. -/
import Derived.Test.YtkeiakmfnammbaaKnTails
import Derived.Test.YtkeiakmfnammbaaKnDv
import Derived.Test.YtkeiakmfnammbaaKnSol
import Derived.Deep.DeepCutAuto
namespace Go.Proofs.Ytkeiakmfnammbaa
open Go.RowKit

/-- x is a lower bound's witness at i: normal, and not below any solution of the inequalities. -/
def LB (es : List Ed) (i : Nat) (x : Vl) : Prop := Nrm x ∧ ∀ U, NrmF U → PreFix es U → vle (U i) x
theorem LeL.of_at {α : Type} {f : α → Vl} : ∀ {ts : List α} {l : List Vl}, l.length = ts.length → (∀ (j : Nat) (t : α) (v : Vl), ts[j]? = some t → l[j]? = some v → vle (f t) v) → LeL (ts.map f) l
  | [], [], _, _ => .nil
  | [], v :: l, h, _ => by simp at h
  | t :: ts, [], h, _ => by simp at h
  | t :: ts, v :: l, h, hp => .cons (hp 0 t v rfl rfl) (LeL.of_at (by simpa using h) fun j t' v' h1 h2 => hp (j + 1) t' v' (by simpa using h1) (by simpa using h2))
theorem LB.edge {es : List Ed} {e : Ed} {l : List Vl} (he : e ∈ es) (h0 : 0 ≤ e.cost) (hl : l.length = e.ts.length) (hp : ∀ (j : Nat) (t : Int) (v : Vl), e.ts[j]? = some t → l[j]? = some v → LB es t.toNat v) : LB es e.hd.toNat (comb e.cost l) := by
  have hn : ∀ v ∈ l, Ordy v := fun v hv => by
    obtain ⟨j, hj⟩ := List.getElem?_of_mem hv
    have hjl : j < l.length := (List.getElem?_eq_some_iff.1 hj).1
    exact (hp j _ v (List.getElem?_eq_getElem (by omega)) hj).1.1
  refine ⟨comb_nrm h0 hn, fun U hU hP => (hP e he).trans ?_⟩
  exact comb_mono h0 (LeL.of_at hl fun j t v h1 h2 => (hp j t v h1 h2).2 U hU hP) (tlv_ord hU e.ts) hn
/-- What Value leaves. -/
def RetV (es : List Ed) (node : Int) (w : World) (e : Ending) (w' : World) : Prop := ∃ (x : Vl) (b : Bool), e = .returned (.tuple #[.agg #[.int .i64 x.c, .int .i64 x.s], .bool b]) ∧ Ordy x ∧ (b = true → LB es node.toNat x) ∧ Below w.heap.size w w'
theorem results_vb {fn : Func} {p q : Tmp} (h : fn.results = #[.cell p 23, .tmp q]) {tmps : Array Value} {b o : Nat} (hp : tmps.getD p undef = .pointer (some ⟨b, o, none⟩)) {w : World} {x y : Int} {v : Value}
    (h0 : w.cell? ⟨b, o, none⟩ = some (.int .i64 x)) (h1 : w.cell? ⟨b, o + 1, none⟩ = some (.int .i64 y)) (hv : tmps.getD q undef = v) : (results fn tmps).run Try.prog w = .ok (.tuple #[.agg #[.int .i64 x, .int .i64 y], v]) w := by
  rw [results_cell_tmp h, hp, hv]
  simp [go_sem, asAddr, h0, h1]
theorem vz : Ordy ⟨0, 0⟩ := ⟨by decide, by decide, by decide, by decide⟩
theorem val_ways (M : Nat) (most e : Int) : decide (most ≤ 0) = true ∨ (decide (most ≤ 0) = false ∧ decide (e < 0) = true) ∨ (decide (most ≤ 0) = false ∧ decide (e < 0) = false ∧ decide ((M : Int) ≤ e) = true) ∨
    (decide (most ≤ 0) = false ∧ 1 ≤ most ∧ ∃ j : Nat, e = (j : Int) ∧ j < M) := by
  simp only [decide_eq_true_eq, decide_eq_false_iff_not]
  by_cases h : most ≤ 0
  · exact .inl h
  by_cases h1 : e < 0
  · exact .inr (.inl ⟨h, h1⟩)
  by_cases h2 : (M : Int) ≤ e
  · exact .inr (.inr (.inl ⟨h, h1, h2⟩))
  · exact .inr (.inr (.inr ⟨h, by omega, e.toNat, by omega, by omega⟩))
set_option maxRecDepth 100000 in
set_option maxHeartbeats 8000000 in
theorem value_any (N M ce : Nat) (E : Option Addr) (es : List Ed) (HMM : Hid (es.length = M)) (HOK : Hid (∀ e ∈ es, e.Ok N)) (hM : M ≤ 60) : ∀ (k : Nat) (w : World) (B dn : Nat) (node most : Int) (v0 v1 : Value), HG w B E M es → B ≤ w.heap.size → Dvs w B dn v0 v1 → most.toNat ≤ k → most ≤ 200 →
    Calls Try.prog 26 #[.agg #[.int .i64 N, .slice E M ce], .int .i64 node, .agg #[v0, v1], .int .i64 most] w (RetV es node w) := by
  intro k
  induction k with
  | zero =>
    intro w B dn node most v0 v1 hE hB hd hk hm
    have hmD : decide (most ≤ 0) = true := by simp; omega
    obtain _ | dn := dn
    · exact hd.elim
    obtain ⟨ed, A, c, l, rfl, rfl, hln, hR, hds⟩ := hd
    go_enter Try.func26, Try.ntmps26
    go_upto_region 1 with fail
    obtain ⟨w1, hw1⟩ : ∃ w1, ((w.alloc (.cells #[.int .i64 N, .slice E M ce] 34)).alloc (.cells #[.int .i64 ed, .slice A l.length c] 49)).alloc (.cells #[.int .i64 0, .int .i64 0] 23) = w1 := ⟨_, rfl⟩
    obtain ⟨bh, hbh⟩ : ∃ bh, w.heap.size = bh := ⟨_, rfl⟩
    have K2 : Blk w1 (bh + 2) 23 #[.int .i64 0, .int .i64 0] := by rw [← hw1]; exact Blk.new' _ _ _ (by simp; omega)
    have HB1 : Below w.heap.size w w1 := by rw [← hw1]; exact (((Below.refl _ _).alloc (Nat.le_refl _) _).alloc (by simp) _).alloc (by simp; omega) _
    try simp only [Int.ofNat_eq_natCast]
    rw [hw1]
    try rw [hbh]
    have hbs : w.heap.size ≤ bh + 2 := by omega
    have r1 := K2.set2 (.int .i64 0) (.int .i64 0)
    have y0 := K2.frozen 0
    have y1 := K2.frozen 1
    have x0 := K2.cell 0
    have x1 := K2.cell 1
    simp at x0 x1
    go_wp2_with fail
    refine bodyPost_ret (results_vb rfl rfl (r1.cell 0) (r1.cell 1) rfl) rfl ?_
    exact ⟨⟨0, 0⟩, false, rfl, vz, fun h => by simp at h, (HB1.setCell hbs _).setCell hbs _⟩
  | succ k ih =>
    intro w B dn node most v0 v1 hE hB hd hk hm
    have HE := Lib.hid (hE.more hB)
    have HIH := Lib.hid ih
    obtain _ | dn := dn
    · exact hd.elim
    obtain ⟨ed, A, c, l, rfl, rfl, hln, hR, hds⟩ := hd
    have HR := Lib.hid (hR.more hB)
    have HDS : Hid (∀ p ∈ l, Dvs w w.heap.size dn p.1 p.2) := fun p hp => (hds p hp).more hB
    obtain ⟨K, hK⟩ : ∃ K, l.length = K := ⟨_, rfl⟩
    rw [hK] at HR hln ⊢
    have HKK := Lib.hid hK
    have HMK := Lib.hid (And.intro hk hm)
    unfold maxLen at hln
    clear hE ih hR hds hK hk hm
    go_enter Try.func26, Try.ntmps26
    go_upto_region 1 with fail
    obtain ⟨w1, hw1⟩ : ∃ w1, ((w.alloc (.cells #[.int .i64 N, .slice E M ce] 34)).alloc (.cells #[.int .i64 ed, .slice A K c] 49)).alloc (.cells #[.int .i64 0, .int .i64 0] 23) = w1 := ⟨_, rfl⟩
    obtain ⟨bh, hbh⟩ : ∃ bh, w.heap.size = bh := ⟨_, rfl⟩
    have HK0 : Hid (Blk w1 bh 34 #[.int .i64 N, .slice E M ce]) := by rw [← hw1]; exact ((Blk.new' w _ _ hbh).alloc _).alloc _
    have HK1 : Hid (Blk w1 (bh + 1) 49 #[.int .i64 ed, .slice A K c]) := by rw [← hw1]; exact (Blk.new' _ _ _ (by simp; omega)).alloc _
    have HK2 : Hid (Blk w1 (bh + 2) 23 #[.int .i64 0, .int .i64 0]) := by rw [← hw1]; exact Blk.new' _ _ _ (by simp; omega)
    have HB1 : Hid (Below w.heap.size w w1) := by rw [← hw1]; exact (((Below.refl _ _).alloc (Nat.le_refl _) _).alloc (by simp) _).alloc (by simp; omega) _
    have hbs : w.heap.size ≤ bh + 2 := by omega
    have HS1 : Hid (w1.heap.size = bh + 3) := by rw [← hw1, ← hbh]; exact Lib.hid (by simp)
    try simp only [Int.ofNat_eq_natCast]
    rw [hw1]
    try rw [hbh]
    clear hw1 hbh
    have r1 := HK2.out.set2 (.int .i64 0) (.int .i64 0)
    have y0 := HK2.out.frozen 0
    have y1 := HK2.out.frozen 1
    have x0 := HK2.out.cell 0
    have x1 := HK2.out.cell 1
    simp at x0 x1
    have a0 : w1.cell? ⟨bh, 0, none⟩ = some (.int .i64 N) := HK0.out.cell 0
    have a1 : w1.cell? ⟨bh, 1, none⟩ = some (.slice E M ce) := HK0.out.cell 1
    have d0 : w1.cell? ⟨bh + 1, 0, none⟩ = some (.int .i64 ed) := HK1.out.cell 0
    have d1 : w1.cell? ⟨bh + 1, 1, none⟩ = some (.slice A K c) := HK1.out.cell 1
    rcases val_ways M most ed with h1 | ⟨h1, h2⟩ | ⟨h1, h2, h3⟩ | ⟨h1, hm1, j, rfl, hj⟩
    case inr.inr.inr =>
      have HM1 := Lib.hid hm1
      have h2 : decide ((j : Int) < 0) = false := by simp
      have h3 : decide ((M : Int) ≤ (j : Int)) = false := by simp; omega
      have h3' : decide (M ≤ j) = false := by simp; omega
      obtain ⟨b', off, e, hE', hb', he, p0, p1, p2, p3, p4, hRt⟩ := (HE.out.below HB1.out).at_ hj
      rw [hE'] at a1
      have HEk := Lib.hid he
      have HE' := Lib.hid hE'
      have hoke := HOK.out e (List.mem_of_getElem? he)
      have HOKE := Lib.hid hoke
      have HRT := Lib.hid hRt
      have hfew := hoke.few
      have hwm : IntKind.i64.wrap (most - 1) = most - 1 := IntWalk.i64_in _ (by have := HMK.out; omega)
      clear hE' he hRt hoke hm1
      go_upto_region 4 with fail
      obtain ⟨w2, hw2⟩ : ∃ w2, w1.alloc (.cells #[.int .i64 e.hd, .slice e.A e.ts.length e.c, .int .i64 e.cost, .int .i64 e.l0, .int .i64 e.l1] 43) = w2 := ⟨_, rfl⟩
      obtain ⟨be, hbe⟩ : ∃ be, w1.heap.size = be := ⟨_, rfl⟩
      have HKE : Hid (Blk w2 be 43 #[.int .i64 e.hd, .slice e.A e.ts.length e.c, .int .i64 e.cost, .int .i64 e.l0, .int .i64 e.l1]) := by rw [← hw2, ← hbe]; exact Blk.new' w1 _ _ rfl
      have hxb : Below w1.heap.size w1 w2 := by rw [← hw2]; exact (Below.refl _ _).alloc (Nat.le_refl _) _
      have HL02 := Lib.hid (HK0.out.below hxb HK0.out.lt)
      have HL12 := Lib.hid (HK1.out.below hxb HK1.out.lt)
      have HL22 := Lib.hid (HK2.out.below hxb HK2.out.lt)
      have HB2 : Hid (Below w.heap.size w w2) := HB1.out.trans (hxb.mono HB1.out.size)
      have HS2 : Hid (w2.heap.size = bh + 4) := by rw [← hw2]; have := HS1.out; exact Lib.hid (by simp; omega)
      have HBE : Hid (be = bh + 3) := by rw [← hbe]; exact Lib.hid HS1.out
      have HRT2 := Lib.hid (HRT.out.below (hxb.mono HB1.out.size))
      try rw [hw2, hbe]
      clear hw2 hbe hxb HRT HK0 HK1 HK2 HB1 HS1 r1 y0 y1 x0 x1 a0 a1 d0 d1 p0 p1 p2 p3 p4 hb' h1 h2 h3 h3'
      have r1 := HL22.out.set2 (.int .i64 0) (.int .i64 0)
      have y0 := HL22.out.frozen 0
      have y1 := HL22.out.frozen 1
      have x0 := HL22.out.cell 0
      have x1 := HL22.out.cell 1
      simp at x0 x1
      have d1 : w2.cell? ⟨bh + 1, 1, none⟩ = some (.slice A K c) := HL12.out.cell 1
      have k0 : w2.cell? ⟨be, 0, none⟩ = some (.int .i64 e.hd) := HKE.out.cell 0
      have k1 : w2.cell? ⟨be, 1, none⟩ = some (.slice e.A e.ts.length e.c) := HKE.out.cell 1
      by_cases hnn : e.hd = node
      case neg =>
        have hn1 : (e.hd != node) = true := by simp [hnn]
        have hn2 : decide (e.hd = node) = false := by simp [hnn]
        clear hnn
        go_wp2_with fail
        refine bodyPost_ret (results_vb rfl rfl (r1.cell 0) (r1.cell 1) rfl) rfl ?_
        exact ⟨⟨0, 0⟩, false, rfl, vz, fun h => by simp at h, (HB2.out.setCell hbs _).setCell hbs _⟩
      case pos =>
        subst hnn
        by_cases hkn : K = e.ts.length
        case neg =>
          have hn3 : (K != e.ts.length) = true := by simp [hkn]
          have hn4 : decide (K = e.ts.length) = false := by simp [hkn]
          have hn5 : ((K : Int) != (e.ts.length : Int)) = true := by simp; omega
          clear hkn
          go_wp2_with fail
          refine bodyPost_ret (results_vb rfl rfl (r1.cell 0) (r1.cell 1) rfl) rfl ?_
          exact ⟨⟨0, 0⟩, false, rfl, vz, fun h => by simp at h, (HB2.out.setCell hbs _).setCell hbs _⟩
        case pos =>
          obtain ⟨T, hT⟩ : ∃ T, e.ts.length = T := ⟨_, rfl⟩
          obtain rfl : K = T := by omega
          have HTT := Lib.hid hT
          rw [hT] at k1 HKE HRT2 hfew
          try rw [hT]
          have hqK : ((K : Int) != (K : Int)) = false := by simp
          clear hkn hT
          go_wp2_with fail
          clear r1 y0 y1 x0 x1 d1 k0 k1 hqK
          obtain ⟨i0, hi0, hz0, hz1, hz2⟩ := info_parts infoVl3
          go_loopw [11, 12, 13] (fun a11 a12 a13 wr => ∃ (i : Nat) (lf : Int) (acc : List Vl), i ≤ K ∧ a13 = .int .i64 i ∧ a12 = .int .i64 lf ∧ Hid (lf ≤ most - 1 ∧ -(i * 1099511627776 : Int) ≤ lf ∧ acc.length = i ∧ (∀ v ∈ acc, Ordy v) ∧ ∀ (j : Nat) (t : Int) (v : Vl), e.ts[j]? = some t → acc[j]? = some v → LB es t.toNat v) ∧
              Hid (wr.ownsRow (bh + 4) 23 2 a11 acc.length (vls acc)) ∧ Hid (Blk wr be 43 #[.int .i64 e.hd, .slice e.A K e.c, .int .i64 e.cost, .int .i64 e.l0, .int .i64 e.l1]) ∧ Hid (Blk wr bh 34 #[.int .i64 N, .slice E M ce]) ∧ Hid (Blk wr (bh + 1) 49 #[.int .i64 j, .slice A K c]) ∧
              Hid (Blk wr (bh + 2) 23 #[.int .i64 0, .int .i64 0]) ∧ Hid (Below (bh + 4) w2 wr)) (fun _ _ a13 _ => K - (intOf a13).toNat)
          case atStart => exact ⟨0, most - 1, [], Nat.zero_le _, rfl, rfl, ⟨Int.le_refl _, by have := HM1.out; omega, rfl, by simp, by simp⟩, World.ownsRow_nil _ _ _ _, HKE, HL02, HL12, HL22, Below.refl _ _⟩
          case round =>
            obtain ⟨i, lf, acc, hi, rfl, rfl, HI, HO, HKE3, HK03, HK13, HK23, HB3⟩ := hrel
            clear HKE HL02 HL12 HL22
            have hsz2 := HS2.out
            have hbe := HBE.out
            have hszr := HB3.out.size
            have B2r : Below w.heap.size w2 wr := HB3.out.mono (by omega)
            have HBr : Hid (Below w.heap.size w wr) := HB2.out.trans B2r
            have d1 : wr.cell? ⟨bh + 1, 1, none⟩ = some (.slice A K c) := HK13.out.cell 1
            by_cases hlt : i < K
            case neg =>
              have hltD : decide (i < K) = false := by simp [hlt]
              obtain rfl : K = i := by omega
              have hacl : acc.length = K := HI.out.2.2.1
              obtain ⟨A', c', rfl, _, _⟩ := own_form HO.out
              have k2 : wr.cell? ⟨be, 2, none⟩ = some (.int .i64 e.cost) := HKE3.out.cell 2
              have HRA := Lib.hid (Reads.of_own HO.out)
              rw [hacl] at HRA
              have HLB : Hid (LB es e.hd.toNat (comb e.cost acc)) := LB.edge (List.mem_of_getElem? HEk.out) HOKE.out.cost.1 (by have := HTT.out; omega) HI.out.2.2.2.2
              try rw [hacl]
              clear hbe
              go_upto_region 16 with fail
              clear d1
              go_wp2_with (go_at_call 18; refine (rcombine_any e.cost A' K c' wr.heap.size acc wr HRA.out (Nat.le_refl _) HOKE.out.cost.1 HOKE.out.cost.2 HI.out.2.2.2.1 (by omega)).mono ?_; rintro e5 w5 ⟨rfl, hb5⟩; have HK25 := Lib.hid (HK23.out.below hb5 HK23.out.lt); have HB5 : Hid (Below w.heap.size w w5) := HBr.out.trans (hb5.mono HBr.out.size); have y0 := HK25.out.frozen 0; have y1 := HK25.out.frozen 1; have x0 := HK25.out.cell 0; have x1 := HK25.out.cell 1; simp at x0 x1)
              have r1 := HK25.out.set2 (.int .i64 (comb e.cost acc).c) (.int .i64 (comb e.cost acc).s)
              refine bodyPost_ret (results_vb rfl rfl (r1.cell 0) (r1.cell 1) rfl) rfl ?_
              exact ⟨comb e.cost acc, true, rfl, HLB.out.1.1, fun _ => HLB.out, (HB5.out.setCell hbs _).setCell hbs _⟩
            case pos =>
              have hltD : decide (i < K) = true := by simp [hlt]
              obtain ⟨bt, ot, hA, hbt, q0⟩ := (HRT2.out.below B2r).int_at hlt
              obtain ⟨t, hti⟩ : ∃ t, e.ts[i]? = some t := ⟨_, List.getElem?_eq_getElem (by have := HTT.out; omega)⟩
              rw [hti] at q0
              simp only [Option.getD_some] at q0
              obtain ⟨p, hpi⟩ : ∃ p, l[i]? = some p := ⟨_, List.getElem?_eq_getElem (by have := HKK.out; omega)⟩
              obtain ⟨bk, ok, hAk, hbk, u0, u1⟩ := (HR.out.below HBr.out).pr_at hpi
              have HTI := Lib.hid hti
              have hlf : lf.toNat ≤ k ∧ lf ≤ 200 := by have := HI.out.1; have := HMK.out; have := HM1.out; omega
              have HC : Hid (∀ w9, Below wr.heap.size wr w9 → Calls Try.prog 26 #[.agg #[.int .i64 N, .slice E M ce], .int .i64 t, .agg #[p.1, p.2], .int .i64 lf] w9 (RetV es t w9)) := fun w9 h9 => by
                have hb9 : Below w.heap.size w w9 := HBr.out.trans (h9.mono HBr.out.size)
                exact HIH.out w9 w.heap.size dn t lf p.1 p.2 (HE.out.below hb9) hb9.size ((HDS.out p (List.mem_of_getElem? hpi)).below hb9 (Nat.le_refl _)) hlf.1 hlf.2
              have H9 : Hid (∀ w9, Below wr.heap.size wr w9 → w9.cell? ⟨bh, 0, none⟩ = some (.int .i64 N) ∧ w9.cell? ⟨bh, 1, none⟩ = some (.slice E M ce) ∧ w9.cell? ⟨be, 1, none⟩ = some (.slice (some ⟨bt, ot, none⟩) K e.c) ∧ w9.cell? ⟨bt, ot + i, none⟩ = some (.int .i64 t) ∧ w9.cell? ⟨bh + 1, 1, none⟩ = some (.slice (some ⟨bk, ok, none⟩) K c) ∧ w9.cell? ⟨bk, ok + i * 2, none⟩ = some p.1 ∧ w9.cell? ⟨bk, ok + i * 2 + 1, none⟩ = some p.2 ∧ Below wr.heap.size wr w9) := fun w9 h => by
                have Ka := HK03.out.below h HK03.out.lt
                have Kb := HKE3.out.below h HKE3.out.lt
                have Kc := HK13.out.below h HK13.out.lt
                rw [hA] at Kb
                rw [hAk] at Kc
                exact ⟨Ka.cell 0, Ka.cell 1, Kb.cell 1, (h.cell (World.block_lt_of_cell? wr _ q0)).trans q0, Kc.cell 1, (h.cell (World.block_lt_of_cell? wr _ u0)).trans u0, (h.cell (World.block_lt_of_cell? wr _ u1)).trans u1, h⟩
              have HPI := Lib.hid hpi
              have HAA := Lib.hid (And.intro hA hAk)
              rw [hAk] at d1
              clear hA hAk hti hpi hlf q0 u0 u1 B2r hbt hbk hsz2 hbe hszr
              have B8 : Below wr.heap.size wr wr.drew := (Below.refl _ _).drew
              have B8' : Below wr.heap.size wr (wr.alloc (.cells #[.int .i64 0, .int .i64 0] 23)).drew := ((Below.refl _ wr).alloc (Nat.le_refl _) _).drew
              have Z8 : Blk (wr.alloc (.cells #[.int .i64 0, .int .i64 0] 23)).drew wr.heap.size 23 #[.int .i64 0, .int .i64 0] := (Blk.new' wr 23 #[.int .i64 0, .int .i64 0] (g := wr.heap.size) rfl).drew1
              have hz8 : wr.heap.size ≤ (wr.alloc (.cells #[.int .i64 0, .int .i64 0] 23)).drew.heap.size := B8'.size
              have hz8n := Z8.lt
              go_upto_region 11 with fail
              clear d1
              go_cut [14, 15] (fun x14 x15 wx => ∃ (g : Nat) (y : Vl) (b : Bool), x14 = .pointer (some ⟨g, 0, none⟩) ∧ x15 = .bool b ∧ Blk wx g 23 #[.int .i64 y.c, .int .i64 y.s] ∧ Ordy y ∧ (b = true → LB es t.toNat y) ∧ Below wr.heap.size wr wx)
              case first =>
                go_region_held3 (fun w9 => w9.cell? ⟨bh, 0, none⟩ = some (.int .i64 N) ∧ w9.cell? ⟨bh, 1, none⟩ = some (.slice E M ce) ∧ w9.cell? ⟨be, 1, none⟩ = some (.slice (some ⟨bt, ot, none⟩) K e.c) ∧ w9.cell? ⟨bt, ot + i, none⟩ = some (.int .i64 t) ∧ w9.cell? ⟨bh + 1, 1, none⟩ = some (.slice (some ⟨bk, ok, none⟩) K c) ∧ w9.cell? ⟨bk, ok + i * 2, none⟩ = some p.1 ∧ w9.cell? ⟨bk, ok + i * 2 + 1, none⟩ = some p.2 ∧ Below wr.heap.size wr w9)
                  (first | exact H9.out _ B8 | exact H9.out _ B8' | exact H9.out _ X5 | exact H9.out _ (X5.alloc hz5 _) | exact H9.out _ ((X5.setCell (Nat.le_refl _) _).setCell (Nat.le_refl _) _))
                  (first
                    | (go_at_call 26; (with_reducible refine (HC.out _ B8).mono ?_); rintro e5 w5 ⟨y, b, rfl, hoy, hlb, hb5⟩; have HLB := Lib.hid (And.intro hoy hlb); clear hoy hlb; have X5 : Below wr.heap.size wr w5 := B8.trans (hb5.mono (Nat.le_refl _)); have hz5 : wr.heap.size ≤ w5.heap.size := X5.size)
                    | (go_at_call 26; (with_reducible refine (HC.out _ B8').mono ?_); rintro e5 w5 ⟨y, b, rfl, hoy, hlb, hb5⟩; have HLB := Lib.hid (And.intro hoy hlb); clear hoy hlb; have X5 : Below wr.heap.size wr w5 := B8'.trans (hb5.mono hz8); have hz5 : wr.heap.size ≤ w5.heap.size := X5.size; have Z5 := Z8.below hb5 hz8n; have n0 := Z5.cell 0; have n1 := Z5.cell 1; have m0 := Z5.frozen 0; have m1 := Z5.frozen 1; simp at n0 n1))
                all_goals
                  go_wp2_with fail
                  go_meet
                  first
                    | exact ⟨_, y, b, rfl, rfl, Blk.new' w5 _ _ rfl, HLB.out.1, HLB.out.2, X5.alloc hz5 _⟩
                    | exact ⟨_, y, b, rfl, rfl, Z5.set2 _ _, HLB.out.1, HLB.out.2, (X5.setCell (Nat.le_refl _) _).setCell (Nat.le_refl _) _⟩
              case rest =>
                obtain ⟨g, y, b, rfl, rfl, KY, hoy, hlb, X7⟩ := hcut
                rename World => w8
                have HLB := Lib.hid (And.intro hoy hlb)
                have hw3 : IntKind.i64.wrap (lf - max y.s 1) = lf - max y.s 1 := IntWalk.i64_in _ (by have := HI.out.1; have := HI.out.2.1; have := HMK.out; unfold Ordy at hoy; omega)
                have HK08 := Lib.hid (HK03.out.below X7 HK03.out.lt)
                have HK18 := Lib.hid (HK13.out.below X7 HK13.out.lt)
                have HK28 := Lib.hid (HK23.out.below X7 HK23.out.lt)
                have HKE8 := Lib.hid (HKE3.out.below X7 HKE3.out.lt)
                have HO8 := Lib.hid (own_below HO.out X7)
                have HB8 : Hid (Below (bh + 4) w2 w8) := HB3.out.trans (X7.mono (by have := HB3.out.size; have := HS2.out; omega))
                have HBw8 : Hid (Below w.heap.size w w8) := HBr.out.trans (X7.mono HBr.out.size)
                have g0 : w8.cell? ⟨g, 0, none⟩ = some (.int .i64 y.c) := KY.cell 0
                have g1 : w8.cell? ⟨g, 1, none⟩ = some (.int .i64 y.s) := KY.cell 1
                clear hoy hlb B8 B8' Z8 hz8 hz8n H9 HC HK03 HK13 HK23 HKE3 HO HB3 HBr X7
                cases b with
                | false =>
                  have r1 := HK28.out.set2 (.int .i64 0) (.int .i64 0)
                  have y0 := HK28.out.frozen 0
                  have y1 := HK28.out.frozen 1
                  have x0 := HK28.out.cell 0
                  have x1 := HK28.out.cell 1
                  simp at x0 x1
                  go_wp2_with fail
                  refine bodyPost_ret (results_vb rfl rfl (r1.cell 0) (r1.cell 1) rfl) rfl ?_
                  exact ⟨⟨0, 0⟩, false, rfl, vz, fun h => by simp at h, (HBw8.out.setCell hbs _).setCell hbs _⟩
                | true =>
                  go_upto_region 15 with fail
                  have HACL : Hid (acc.length = i) := HI.out.2.2.1
                  go_wp2_with (at_builtin; go_must (refine wpList_append_own _ rfl _ _ 27 rfl (bh + 4) 23 i0 (.agg #[.int .i64 0, .int .i64 0]) 2 16 Try.underlying27 hi0 hz0 hz1 hz2 rfl (by decide) _ acc.length (vls acc) rfl ?hown ⟨w8.heap.size, 0, none⟩ 1 1 y.cells rfl rfl ?c1 ?c2 ?c3 ?c4 ?c5 ?_))
                  case hown => exact HO8.out.alloc _
                  case c1 =>
                    intro j u hj
                    simpa [Vl.cells] using hj
                  case c2 =>
                    intro u hu
                    simp [Vl.cells] at hu
                    rcases hu with rfl | rfl <;> rfl
                  case c3 => have := HACL.out; unfold maxLen; omega
                  case c4 => have := HACL.out; omega
                  case c5 => have := HB8.out.size; have := HS2.out; omega
                  · intro v' w9 hown' hgrow _
                    have hlt0 := HO8.out.lt
                    have hbe := HBE.out
                    have B0 : Hid (Blk w9 bh 34 #[.int .i64 N, .slice E M ce]) := (HK08.out.alloc _).grown hgrow (fun e => by have := hlt0 _ e.symm; omega)
                    have B1 : Hid (Blk w9 (bh + 1) 49 #[.int .i64 j, .slice A K c]) := (HK18.out.alloc _).grown hgrow (fun e => by have := hlt0 _ e.symm; omega)
                    have B2 : Hid (Blk w9 (bh + 2) 23 #[.int .i64 0, .int .i64 0]) := (HK28.out.alloc _).grown hgrow (fun e => by have := hlt0 _ e.symm; omega)
                    have B3 : Hid (Blk w9 be 43 #[.int .i64 e.hd, .slice e.A K e.c, .int .i64 e.cost, .int .i64 e.l0, .int .i64 e.l1]) := (HKE8.out.alloc _).grown hgrow (fun e => by have := hlt0 _ e.symm; omega)
                    have R := vls_push (t := y) (HB8.out.alloc (by have := HB8.out.size; have := HS2.out; omega) _) (by have := HS2.out; omega) hown' hgrow (HO8.out.alloc _)
                    have HR1 := Lib.hid R
                    clear hown' hgrow HO8 R hlt0 HK08 HK18 HK28 HKE8 HB8 hbe g0 g1
                    go_wp2_with fail
                    go_roundw
                    case rel =>
                      refine ⟨i + 1, lf - max y.s 1, acc ++ [y], by omega, by go_num, rfl, ⟨?_, ?_, by have := HACL.out; simp; omega, ?_, ?_⟩, HR1.out.1, B3, B0, B1, B2, HR1.out.2⟩
                      · have := HI.out.1; omega
                      · have h1 := HI.out.2.1
                        have h2 := HLB.out.1
                        unfold Ordy at h2
                        omega
                      · intro v hv
                        rcases List.mem_append.1 hv with h | h
                        · exact HI.out.2.2.2.1 v h
                        · simp at h
                          rw [h]
                          exact HLB.out.1
                      · intro n t' v h1 h2
                        have hacl := HACL.out
                        rcases Nat.lt_or_ge n acc.length with h3 | h3
                        · rw [List.getElem?_append_left h3] at h2
                          exact HI.out.2.2.2.2 n t' v h1 h2
                        · rw [List.getElem?_append_right h3] at h2
                          have h4 : n - acc.length < 1 := by simpa using (List.getElem?_eq_some_iff.1 h2).1
                          obtain rfl : n = i := by omega
                          rw [HTI.out] at h1
                          rw [hacl] at h2
                          simp at h1 h2
                          rw [← h1, ← h2]
                          first | exact HLB.out.2 rfl | exact HLB.out.2 trivial
                    case measure => simp [intOf]; omega
    all_goals
      go_wp2_with fail
      refine bodyPost_ret (results_vb rfl rfl (r1.cell 0) (r1.cell 1) rfl) rfl ?_
      exact ⟨⟨0, 0⟩, false, rfl, vz, fun h => by simp at h, (HB1.out.setCell hbs _).setCell hbs _⟩
end Go.Proofs.Ytkeiakmfnammbaa
