/- The reference's solver; small hypergraphs. -/
import Derived.Test.YtbalhkbpmahkgaaOMc
import Derived.Deep.DeepCutAuto
namespace Go.Proofs.Ytbalhkbpmahkgaa
open Go.RowKit

def rks (V : List Vl) : Nat := (V.map vrk).sum
def sumc : List Value → Nat
  | .int _ c :: .int _ s :: l => vrk ⟨c, s⟩ + sumc l
  | _ => 0
theorem sumc_vls : ∀ V : List Vl, sumc (vls V) = rks V
  | [] => rfl
  | v :: V => by
    have ih := sumc_vls V
    have e : vls (v :: V) = .int .i64 v.c :: .int .i64 v.s :: vls V := rfl
    rw [e]
    simp only [sumc, ih, rks, List.map_cons, List.sum_cons]
/-- The measure, read from memory. -/
def vmeas (w : World) (g : Nat) : Nat := match w.heap[g]? with
  | some (.cells cs _ _) => sumc cs.toList
  | _ => 0
theorem vmeas_eq {w : World} {g : Nat} {t : TypeId} {V : List Vl} (h : Blk w g t (vls V).toArray) : vmeas w g = rks V := by
  unfold Blk at h
  unfold vmeas
  rw [h]
  exact sumc_vls V
theorem rks_set : ∀ {V : List Vl} {n : Nat} {v u : Vl}, V[n]? = some v → vrk u < vrk v → rks (V.set n u) < rks V
  | [], _, _, _, h, _ => by simp at h
  | a :: V, 0, v, u, h, hl => by
    simp at h
    subst h
    simp only [rks, List.set_cons_zero, List.map_cons, List.sum_cons]
    omega
  | a :: V, n + 1, v, u, h, hl => by
    simp at h
    have ih := rks_set h hl
    simp only [rks, List.set_cons_succ, List.map_cons, List.sum_cons] at *
    omega
/-- What the iteration keeps. -/
structure RInv (es : List Ed) (V : List Vl) : Prop where
  nV : NrmF (gv V)
  low : ∀ U, NrmF U → PreFix es U → ∀ i, vle (U i) (gv V i)
theorem RInv.start (es : List Ed) (N : Nat) : RInv es (List.replicate N vtop) := ⟨fun i => by rw [gv_rep]; exact Nrm.top, fun U hU _ i => by rw [gv_rep]; exact (hU i).le_top⟩
theorem RInv.vord {es : List Ed} {V : List Vl} (h : RInv es V) : ∀ v ∈ V, Ordy v := fun v hv => by
  obtain ⟨i, hi⟩ := List.getElem?_of_mem hv
  have := (h.nV i).1
  unfold gv at this
  rw [hi] at this
  exact this
theorem RInv.put {es : List Ed} {V : List Vl} (h : RInv es V) {e : Ed} {n : Nat} (he : e ∈ es) (h0 : 0 ≤ e.cost) (hn : e.hd.toNat = n) (hl : n < V.length) : RInv es (V.set n (ev (gv V) e)) := by
  refine ⟨fun i => ?_, fun U hU hP i => ?_⟩
  · rw [gv_set hl]
    split
    · exact ev_nrm h.nV h0
    · exact h.nV i
  · rw [gv_set hl]
    split
    · rename_i e1
      subst e1
      have := hP e he
      rw [hn] at this
      exact this.trans (ev_mono hU h.nV h0 fun t _ => h.low U hU hP _)
    · exact h.low U hU hP i
theorem RInv.sol {es : List Ed} {V : List Vl} (h : RInv es V) (hp : PreFix es (gv V)) : Sol es (gv V) := ⟨h.nV, hp, h.low⟩
/-- The first k hyperedges undercut nothing. -/
def PreK (es : List Ed) (V : List Vl) (k : Nat) : Prop := ∀ j e, j < k → es[j]? = some e → vle (gv V e.hd.toNat) (ev (gv V) e)
theorem PreK.next {es : List Ed} {V : List Vl} {k : Nat} {e : Ed} (h : PreK es V k) (he : es[k]? = some e) (hv : vle (gv V e.hd.toNat) (ev (gv V) e)) : PreK es V (k + 1) := fun j e' hj he' => by
  by_cases hjk : j = k
  · subst hjk
    rw [he] at he'
    injection he' with he'
    subst he'
    exact hv
  · exact h j e' (by omega) he'
theorem PreK.all {es : List Ed} {V : List Vl} (h : PreK es V es.length) : PreFix es (gv V) := fun e he => by
  obtain ⟨k, hk⟩ := List.getElem?_of_mem he
  exact h k e (List.getElem?_eq_some_iff.1 hk).1 hk
/-- What a pass keeps: whether something has changed. -/
def PassS (b : Bool) (es : List Ed) (V0 V : List Vl) (k : Nat) : Prop := (b = false → V = V0 ∧ PreK es V k) ∧ (b = true → rks V < rks V0)
def PassE (b : Bool) (es : List Ed) (V : List Vl) : Prop := b = false → PreK es V es.length
theorem vlt_iff {a b : Vl} : vlt a.c a.s b.c b.s = true ↔ ¬ vle b a := by
  unfold vlt vle
  simp only [Bool.or_eq_true, decide_eq_true_eq, Bool.and_eq_true, beq_iff_eq]
  omega
theorem vlt_rk {a b : Vl} (ha : Ordy a) (hb : Ordy b) (h : vlt a.c a.s b.c b.s = true) : vrk a < vrk b := by
  refine vrk_lt ha hb ?_
  unfold vlt at h
  simp only [Bool.or_eq_true, decide_eq_true_eq, Bool.and_eq_true, beq_iff_eq] at h
  exact h
/-- The chosen hyperedges from k on, as the last loop finds them. -/
def choB (V : Nat → Vl) (es : List Ed) (k : Nat) (i : Nat) : Int := match (es.drop k).findIdx? (isC V i) with
  | some j => ((k + j : Nat) : Int)
  | none => -1
theorem choB_zero (V : Nat → Vl) (es : List Ed) (i : Nat) : choB V es 0 i = cho V es i := by
  unfold choB cho
  rw [List.drop_zero]
  cases es.findIdx? (isC V i) with
  | none => rfl
  | some j => simp
theorem choB_end (V : Nat → Vl) (es : List Ed) (i : Nat) : choB V es es.length i = -1 := by
  unfold choB
  simp
theorem choB_step {V : Nat → Vl} {es : List Ed} {k : Nat} {e : Ed} (h : es[k]? = some e) (i : Nat) : choB V es k i = if isC V i e = true then (k : Int) else choB V es (k + 1) i := by
  obtain ⟨hk, he⟩ := List.getElem?_eq_some_iff.1 h
  unfold choB
  rw [List.drop_eq_getElem_cons hk, he, List.findIdx?_cons]
  by_cases hc : isC V i e = true
  · simp [hc]
  · rw [if_neg hc, if_neg hc]
    cases (es.drop (k + 1)).findIdx? (isC V i) with
    | none => rfl
    | some j => simp; omega
def chB (V : Nat → Vl) (es : List Ed) (k N : Nat) : List Int := (List.range N).map (choB V es k)
theorem chB_len (V : Nat → Vl) (es : List Ed) (k N : Nat) : (chB V es k N).length = N := by simp [chB]
theorem chB_at {V : Nat → Vl} {es : List Ed} {k N i : Nat} (h : i < N) : (chB V es k N)[i]? = some (choB V es k i) := by simp [chB, h]
theorem chB_zero (V : Nat → Vl) (es : List Ed) (N : Nat) : chB V es 0 N = chs V es N := by
  unfold chB chs
  exact List.map_congr_left fun i _ => choB_zero V es i
theorem chB_end (V : Nat → Vl) (es : List Ed) (N : Nat) : chB V es es.length N = List.replicate N (-1) := by
  apply List.ext_getElem?
  intro i
  rw [List.getElem?_replicate]
  by_cases h : i < N
  · rw [chB_at h, if_pos h, choB_end]
  · rw [if_neg h, List.getElem?_eq_none (by rw [chB_len]; omega)]
theorem chB_same {V : Nat → Vl} {es : List Ed} {k N : Nat} {e : Ed} (h : es[k]? = some e) (hno : att V e = false) : chB V es k N = chB V es (k + 1) N := by
  unfold chB
  apply List.map_congr_left
  intro i _
  rw [choB_step h, if_neg]
  simp [isC, hno]
theorem chB_set {V : Nat → Vl} {es : List Ed} {N k n : Nat} {e : Ed} (h : es[k]? = some e) (hn : e.hd.toNat = n) (h2 : att V e = true) : (chB V es (k + 1) N).set n (k : Int) = chB V es k N := by
  apply List.ext_getElem?
  intro i
  rw [List.getElem?_set, chB_len]
  by_cases hi : i < N
  · rw [chB_at hi, chB_at hi, choB_step h]
    by_cases e1 : n = i
    · subst e1
      rw [if_pos rfl, if_pos hi, if_pos (by simp only [isC, hn, h2]; simp)]
    · rw [if_neg e1, if_neg]
      intro h4
      simp only [isC, Bool.and_eq_true, decide_eq_true_eq] at h4
      exact e1 (hn.symm.trans h4.1)
  · by_cases e1 : n = i
    · subst e1
      rw [if_pos rfl, if_neg hi, List.getElem?_eq_none (by rw [chB_len]; omega)]
    · rw [if_neg e1, List.getElem?_eq_none (by rw [chB_len]; omega), List.getElem?_eq_none (by rw [chB_len]; omega)]
end Go.Proofs.Ytbalhkbpmahkgaa

namespace Go.Proofs.Ytbalhkbpmahkgaa
open Go.RowKit

set_option maxRecDepth 100000 in
set_option maxHeartbeats 4000000 in
theorem rsolve_any (w : World) (N ce B : Nat) (E : Option Addr) (es : List Ed) (hE : HG w B E es.length es) (hB : B ≤ w.heap.size) (hes : ∀ e ∈ es, e.Ok N) (hN : N ≤ 30) (hM : es.length ≤ 60) :
    Calls Try.prog 24 #[.agg #[.int .i64 N, .slice E es.length ce]] w (SolvePost w N es) := by
  obtain ⟨M, hMM⟩ : ∃ M, es.length = M := ⟨_, rfl⟩
  rw [hMM] at hM ⊢
  have HE := Lib.hid (hE.more hB)
  rw [hMM] at HE
  have HES := Lib.hid hes
  have HMM := Lib.hid hMM
  clear hE hes hMM
  have hv := run_make_vls N (by omega)
  have hoN := mk_ints N (by omega)
  have hEQ := run_eql_vl
  have HEQ := Lib.hid hEQ
  clear hEQ
  go_enter Try.func24, Try.ntmps24
  go_wp2_with fail
  obtain ⟨w1, hw1⟩ : ∃ w1, ((w.alloc (.cells #[.int .i64 N, .slice E M ce] 24)).alloc (.cells (vls (List.replicate N ⟨0, 0⟩)).toArray 38)).alloc (.cells (ints (List.replicate N 0)).toArray 3) = w1 := ⟨_, rfl⟩
  rw [hw1]
  obtain ⟨bh, hbh⟩ : ∃ bh, w.heap.size = bh := ⟨_, rfl⟩
  obtain ⟨va, hva⟩ : ∃ va, bh + 1 = va := ⟨_, rfl⟩
  obtain ⟨ea, hea⟩ : ∃ ea, va + 1 = ea := ⟨_, rfl⟩
  have HKH1 : Hid (Blk w1 bh 24 #[.int .i64 N, .slice E M ce]) := by rw [← hw1]; exact ((Blk.new' w _ _ hbh).alloc _).alloc _
  have HKV1 : Hid (Blk w1 va 38 (vls (vini N 0)).toArray) := by
    have : vini N 0 = List.replicate N ⟨0, 0⟩ := by simp [vini]
    rw [← hw1, this]; exact (Blk.new' _ _ _ (by simp; omega)).alloc _
  have HKA1 : Hid (Blk w1 ea 3 (ints (eini N 0)).toArray) := by
    have : eini N 0 = List.replicate N 0 := by simp [eini]
    rw [← hw1, this]; exact Blk.new' _ _ _ (by simp; omega)
  have HB1 : Hid (Below w.heap.size w w1) := by rw [← hw1]; exact (((Below.refl _ _).alloc (Nat.le_refl _) _).alloc (by simp) _).alloc (by simp; omega) _
  have HLT : Hid (w.heap.size ≤ bh ∧ bh < va ∧ va < ea) := ⟨by omega, by omega, by omega⟩
  try rw [hbh]
  try rw [hva]
  try rw [hea]
  clear hw1 hbh hva hea hv hoN
  go_loopw [6] (fun x wr => ∃ i : Nat, i ≤ N ∧ x = .int .i64 i ∧ Hid (Blk wr bh 24 #[.int .i64 N, .slice E M ce]) ∧ Hid (Blk wr va 38 (vls (vini N i)).toArray) ∧ Hid (Blk wr ea 3 (ints (eini N i)).toArray) ∧ Hid (Below w.heap.size w wr)) (fun x _ => N - (intOf x).toNat)
  case atStart => exact ⟨0, Nat.zero_le _, rfl, HKH1, HKV1, HKA1, HB1⟩
  case round =>
    obtain ⟨i, hi, rfl, HKH2, HKV2, HKA2, HB2⟩ := hrel
    clear HKH1 HKV1 HKA1 HB1
    have c0 : wr.cell? ⟨bh, 0, none⟩ = some (.int .i64 N) := HKH2.out.cell 0
    by_cases hlt : i < N
    case pos =>
      have hltD : decide (i < N) = true := by simp [hlt]
      obtain ⟨vi, hvi⟩ : ∃ vi, (vini N i)[i]? = some vi := ⟨_, List.getElem?_eq_getElem (by rw [vini_len hi]; exact hlt)⟩
      obtain ⟨v0, v1⟩ := HKV2.out.vl_at hvi
      have z0 := HKV2.out.frozen (i * 2)
      have z1 := HKV2.out.frozen (i * 2 + 1)
      obtain ⟨ei, hei⟩ : ∃ ei, (eini N i)[i]? = some ei := ⟨_, List.getElem?_eq_getElem (by rw [eini_len hi]; exact hlt)⟩
      have x0 : wr.cell? ⟨ea, i, none⟩ = some (.int .i64 ei) := by rw [HKA2.out.cell]; simp [ints, hei]
      have y0 := HKA2.out.frozen i
      have n0 := HLT.out
      have nva : ¬ va = ea := by omega
      have hv2 : (vini N i).set i vtop = vini N (i + 1) := ini_set hlt
      have he2 : (eini N i).set i (-1) = eini N (i + 1) := ini_set hlt
      have HKV3 : Hid (Blk (((wr.setCell ⟨va, i * 2, none⟩ (.int .i64 1099511627776)).setCell ⟨va, i * 2 + 1, none⟩ (.int .i64 0)).setCell ⟨ea, i, none⟩ (.int .i64 (-1))) va 38 (vls (vini N (i + 1))).toArray) := by
        rw [← hv2]
        exact (HKV2.out.vl_put (by rw [vini_len hi]; exact hlt) vtop).far (p := ⟨ea, i, none⟩) nva _
      have HKA3 : Hid (Blk (((wr.setCell ⟨va, i * 2, none⟩ (.int .i64 1099511627776)).setCell ⟨va, i * 2 + 1, none⟩ (.int .i64 0)).setCell ⟨ea, i, none⟩ (.int .i64 (-1))) ea 3 (ints (eini N (i + 1))).toArray) := by
        rw [← he2]
        have := (((HKA2.out.far (p := ⟨va, i * 2, none⟩) (fun e => nva e.symm) (.int .i64 1099511627776)).far (p := ⟨va, i * 2 + 1, none⟩) (fun e => nva e.symm) (.int .i64 0)).set_ i (.int .i64 (-1)))
        have e2 : (ints ((eini N i).set i (-1))).toArray = (ints (eini N i)).toArray.setIfInBounds i (.int .i64 (-1)) := by simp [ints, List.map_set]
        rw [e2]
        exact this
      have HKH3 : Hid (Blk (((wr.setCell ⟨va, i * 2, none⟩ (.int .i64 1099511627776)).setCell ⟨va, i * 2 + 1, none⟩ (.int .i64 0)).setCell ⟨ea, i, none⟩ (.int .i64 (-1))) bh 24 #[.int .i64 N, .slice E M ce]) :=
        ((HKH2.out.far (p := ⟨va, i * 2, none⟩) (by show bh ≠ va; omega) _).far (p := ⟨va, i * 2 + 1, none⟩) (by show bh ≠ va; omega) _).far (p := ⟨ea, i, none⟩) (by show bh ≠ ea; omega) _
      have HB3 : Hid (Below w.heap.size w (((wr.setCell ⟨va, i * 2, none⟩ (.int .i64 1099511627776)).setCell ⟨va, i * 2 + 1, none⟩ (.int .i64 0)).setCell ⟨ea, i, none⟩ (.int .i64 (-1)))) :=
        ((HB2.out.setCell (p := ⟨va, i * 2, none⟩) (by show w.heap.size ≤ va; omega) _).setCell (p := ⟨va, i * 2 + 1, none⟩) (by show w.heap.size ≤ va; omega) _).setCell (p := ⟨ea, i, none⟩) (by show w.heap.size ≤ ea; omega) _
      clear hv2 he2 hvi hei n0
      go_wp2_with fail
      go_roundw
      case rel => exact ⟨i + 1, by omega, by go_num, HKH3, HKV3, HKA3, HB3⟩
      case measure => simp [intOf]; omega
    case neg =>
      have hltD : decide (i < N) = false := by simp [hlt]
      obtain rfl : N = i := by omega
      clear hlt hi
      have hvi : vini N N = List.replicate N vtop := by simp [vini]
      have hei : eini N N = chB (gv (List.replicate N vtop)) es es.length N := by rw [chB_end]; simp [eini]
      rw [hvi] at HKV2
      have hei2 : eini N N = List.replicate N (-1) := by simp [eini]
      rw [hei2] at HKA2
      have HRI : Hid (RInv es (List.replicate N vtop)) := RInv.start es N
      have HPE : Hid (PassE true es (List.replicate N vtop)) := fun h => by simp at h
      clear hvi hei hei2
      go_wp2_with fail
      clear c0
      rename World => w4
      go_loopw [7] (fun x wr => ∃ (V : List Vl) (b : Bool), x = .bool b ∧ V.length = N ∧ Hid (Blk wr bh 24 #[.int .i64 N, .slice E M ce]) ∧ Hid (Blk wr va 38 (vls V).toArray) ∧ Hid (Blk wr ea 3 (ints (List.replicate N (-1))).toArray) ∧ Hid (Below w.heap.size w wr) ∧ Hid (RInv es V) ∧ Hid (PassE b es V)) (fun x wr => 2 * vmeas wr va + (match x with | .bool true => 1 | _ => 0))
      case atStart => exact ⟨_, true, rfl, by simp, HKH2, HKV2, HKA2, HB2, HRI, HPE⟩
      case round =>
        obtain ⟨V0, b, rfl, hVl0, HKH3, HKV3, HKA3, HB3, HRI3, HP3⟩ := hrel
        clear HKH2 HKV2 HKA2 HB2 HRI HPE
        cases b with
        | false =>
          have HSOL : Hid (Sol es (gv V0)) := HRI3.out.sol (PreK.all (HP3.out rfl))
          have HVO : Hid (∀ v ∈ V0, Ordy v) := HRI3.out.vord
          clear HP3 HRI3
          have hHA : chB (gv V0) es M N = List.replicate N (-1) := by rw [← HMM.out, chB_end]
          rw [← hHA] at HKA3
          have c1 : wr.cell? ⟨bh, 1, none⟩ = some (.slice E M ce) := HKH3.out.cell 1
          clear hHA
          go_wp2_with fail
          rename World => w5
          go_loopw [11] (fun x wr => ∃ (j : Nat) (q : Int), j ≤ M ∧ x = .int .i64 q ∧ Hid (q = (j : Int) - 1) ∧ Hid (Blk wr bh 24 #[.int .i64 N, .slice E M ce]) ∧ Hid (Blk wr va 38 (vls V0).toArray) ∧ Hid (Blk wr ea 3 (ints (chB (gv V0) es j N)).toArray) ∧ Hid (Below w.heap.size w wr)) (fun x _ => (intOf x + 1).toNat)
          case atStart => exact ⟨M, _, Nat.le_refl _, rfl, rfl, HKH3, HKV3, HKA3, HB3⟩
          case round =>
            obtain ⟨j, q, hj, rfl, HQ, HKH4, HKV4, HKA4, HB4⟩ := hrel
            clear HKH3 HKV3 HKA3 HB3 c1
            cases j with
            | zero =>
              obtain rfl : q = -1 := by rw [HQ.out]; rfl
              rw [chB_zero] at HKA4
              have n0 := HLT.out
              go_wp2_with fail
              go_ret2
              exact ⟨va, ea, V0, rfl, hVl0, HKV4.out, HKA4.out, HSOL.out, by omega, by omega, HB4.out⟩
            | succ k =>
              obtain rfl : q = (k : Int) := by rw [HQ.out]; omega
              have hlt : k < M := by omega
              have c1 : wr.cell? ⟨bh, 1, none⟩ = some (.slice E M ce) := HKH4.out.cell 1
              obtain ⟨b', off, e, hE', hb', he, p0, p1, p2, p3, p4, hR⟩ := (HE.out.below HB4.out).at_ hlt
              subst hE'
              have HRd := Lib.hid hR
              have HEk := Lib.hid he
              have heok := HES.out e (List.mem_of_getElem? he)
              obtain ⟨n, hn⟩ := Int.eq_ofNat_of_zero_le heok.hd.1
              have hnN : n < N := by have := heok.hd.2; omega
              have hbl : b' < wr.heap.size := by have := HB4.out.size; omega
              have HOKE := Lib.hid heok
              clear hR he heok
              rw [hn] at p0
              have HN := Lib.hid hn
              clear hn
              obtain ⟨vn, hvn⟩ : ∃ vn, gv V0 n = vn := ⟨_, rfl⟩
              have hvi : V0[n]? = some vn := by rw [← hvn, gv, List.getElem?_eq_getElem (by omega)]; rfl
              obtain ⟨v0, v1⟩ := HKV4.out.vl_at hvi
              have hvlt : va < wr.heap.size := HKV4.out.lt
              have HVN := Lib.hid hvn
              have hgeq : decide ((0 : Int) ≤ (k : Int)) = true := by simp
              clear hvn hvi
              go_upto_region 23 with fail
              obtain ⟨w6, hw6⟩ : ∃ w6, (wr.alloc (.cells #[.int .i64 (n : Nat), .slice e.A e.ts.length e.c, .int .i64 e.cost, .int .i64 e.l0, .int .i64 e.l1] 48)).alloc (.cells #[.int .i64 vn.c, .int .i64 vn.s] 38) = w6 := ⟨_, rfl⟩
              obtain ⟨be, hbe⟩ : ∃ be, wr.heap.size = be := ⟨_, rfl⟩
              have HKE : Hid (Blk w6 be 48 #[.int .i64 (n : Nat), .slice e.A e.ts.length e.c, .int .i64 e.cost, .int .i64 e.l0, .int .i64 e.l1]) := by rw [← hw6, ← hbe]; exact (Blk.new' wr _ _ rfl).alloc _
              have HKY : Hid (Blk w6 (be + 1) 38 #[.int .i64 vn.c, .int .i64 vn.s]) := by rw [← hw6, ← hbe]; exact Blk.new' _ _ _ (by simp)
              have hxb : Below wr.heap.size wr w6 := by rw [← hw6]; exact ((Below.refl _ _).alloc (Nat.le_refl _) _).alloc (by simp) _
              have HKH5 := Lib.hid (HKH4.out.below hxb HKH4.out.lt)
              have HKV5 := Lib.hid (HKV4.out.below hxb HKV4.out.lt)
              have HKA5 := Lib.hid (HKA4.out.below hxb HKA4.out.lt)
              have HB5 : Hid (Below w.heap.size w w6) := HB4.out.trans (hxb.mono HB4.out.size)
              have HRd5 := Lib.hid (HRd.out.below (hxb.mono HB4.out.size))
              rw [hw6, hbe]
              clear hw6 hbe hxb HKH4 HKV4 HKA4 HB4 HRd p0 p1 p2 p3 p4 hbl hb' c1 v0 v1 hvlt hgeq
              obtain ⟨L, hL⟩ : ∃ L, tlv (gv V0) e.ts = L := ⟨_, rfl⟩
              obtain ⟨y, hy⟩ : ∃ y, comb e.cost L = y := ⟨_, rfl⟩
              have hey : ev (gv V0) e = y := by rw [← hy, ← hL]; rfl
              have hatt : att (gv V0) e = (decide (vn.c < 1099511627776) && (decide (y.c = vn.c) && decide (y.s = vn.s))) := by
                unfold att
                rw [HN.out, Int.toNat_natCast, HVN.out, hey]
              have hLl : L.length ≤ 4 := by rw [← hL]; simp only [tlv, List.length_map]; exact HOKE.out.few
              have HLO : Hid (∀ v ∈ L, Ordy v) := by rw [← hL]; exact tlv_ord HSOL.out.nrm e.ts
              have HT : Hid (∀ w9, Below w6.heap.size w6 w9 → Calls Try.prog 37 #[.agg #[.int .i64 (n : Nat), .slice e.A e.ts.length e.c, .int .i64 e.cost, .int .i64 e.l0, .int .i64 e.l1], .slice (some ⟨va, 0, none⟩) N N] w9 (RetVls L w9)) := fun w9 h9 => by
                rw [← hL]
                exact rtails_any w9 w6.heap.size N N (some ⟨va, 0, none⟩) V0 n e.cost e.l0 e.l1 e.A e.c e.ts ((Reads.of_blk HKV5.out HKV5.out.lt (by simp) (by rw [vls_length, hVl0])).below h9) ((HRd5.out.more HB5.out.size).below h9) h9.size HOKE.out.ts (by have := HOKE.out.few; omega)
              have HCB : Hid (∀ (w9 : World) (A : Option Addr) (c B : Nat), Reads w9 B 2 A L.length (vls L) → B ≤ w9.heap.size → Calls Try.prog 34 #[.int .i64 e.cost, .slice A L.length c] w9 fun e' w' => e' = .returned (.agg #[.int .i64 y.c, .int .i64 y.s]) ∧ Below w9.heap.size w9 w') := fun w9 A c B h1 h2 => by
                rw [← hy]
                exact rcombine_any e.cost A L.length c B L w9 h1 h2 HOKE.out.cost.1 HOKE.out.cost.2 HLO.out (by omega)
              have HATT := Lib.hid hatt
              have x1 : w6.cell? ⟨be + 1, 0, none⟩ = some (.int .i64 vn.c) := HKY.out.cell 0
              clear hatt hL hy hey
              cases hfin : decide (vn.c < 1099511627776) with
              | false =>
                have hno : att (gv V0) e = false := by rw [HATT.out, hfin]; rfl
                have HNO := Lib.hid hno
                clear hno
                go_quiet (fail)
                go_wp2_with fail
                go_roundw
                case rel => exact ⟨k, _, by omega, rfl, by show Hid (_ = _); exact rfl, HKH5, HKV5, by rw [chB_same HEk.out HNO.out]; exact HKA5, below_drewN HB5.out _⟩
                case measure => simp [intOf]
              | true =>
                have HFIN := Lib.hid hfin
                have H9 : Hid (∀ w9, Below w6.heap.size w6 w9 → w9.cell? ⟨be, 0, none⟩ = some (.int .i64 (n : Nat)) ∧ w9.cell? ⟨be, 1, none⟩ = some (.slice e.A e.ts.length e.c) ∧ w9.cell? ⟨be, 2, none⟩ = some (.int .i64 e.cost) ∧ w9.cell? ⟨be, 3, none⟩ = some (.int .i64 e.l0) ∧ w9.cell? ⟨be, 4, none⟩ = some (.int .i64 e.l1) ∧ w9.cell? ⟨be + 1, 0, none⟩ = some (.int .i64 vn.c) ∧ w9.cell? ⟨be + 1, 1, none⟩ = some (.int .i64 vn.s) ∧ Below w6.heap.size w6 w9) := fun w9 h => by
                  have K := HKE.out.below h HKE.out.lt
                  have K2 := HKY.out.below h HKY.out.lt
                  exact ⟨K.cell 0, K.cell 1, K.cell 2, K.cell 3, K.cell 4, K2.cell 0, K2.cell 1, h⟩
                have B8 : Below w6.heap.size w6 w6.drew := (Below.refl _ _).drew
                have hE := HEQ.out
                clear x1
                cases hat : (decide (y.c = vn.c) && decide (y.s = vn.s)) with
                | false =>
                  have hno : att (gv V0) e = false := by rw [HATT.out, hfin, hat]; rfl
                  have HNO := Lib.hid hno
                  clear hno
                  go_region_held3 (fun w' => w'.cell? ⟨be, 0, none⟩ = some (.int .i64 (n : Nat)) ∧ w'.cell? ⟨be, 1, none⟩ = some (.slice e.A e.ts.length e.c) ∧ w'.cell? ⟨be, 2, none⟩ = some (.int .i64 e.cost) ∧ w'.cell? ⟨be, 3, none⟩ = some (.int .i64 e.l0) ∧ w'.cell? ⟨be, 4, none⟩ = some (.int .i64 e.l1) ∧ w'.cell? ⟨be + 1, 0, none⟩ = some (.int .i64 vn.c) ∧ w'.cell? ⟨be + 1, 1, none⟩ = some (.int .i64 vn.s) ∧ Below w6.heap.size w6 w')
                    (first | exact H9.out _ B8 | exact H9.out _ X7 | exact H9.out _ X5)
                    (first
                      | (go_at_call 37; (with_reducible refine (HT.out _ B8).mono ?_); rintro e5 w5 ⟨A5, c5, rfl, r5, hb5⟩; have X5 : Below w6.heap.size w6 w5 := B8.trans (hb5.mono (Nat.le_refl _)); have hz5 : w6.heap.size ≤ w5.heap.size := X5.size)
                      | (go_at_call 34; (with_reducible refine (HCB.out _ A5 c5 w5.heap.size r5 (Nat.le_refl _)).mono ?_); rintro e7 w7 ⟨rfl, hb7⟩; have X7 : Below w6.heap.size w6 w7 := X5.trans (hb7.mono hz5); have hz7 : w6.heap.size ≤ w7.heap.size := X7.size))
                  clear hE
                  all_goals
                    go_wp2_with fail
                    go_roundw
                    case rel => exact ⟨k, _, by omega, rfl, by show Hid (_ = _); exact rfl, HKH5.out.below X7 HKH5.out.lt, HKV5.out.below X7 HKV5.out.lt, by rw [chB_same HEk.out HNO.out]; exact HKA5.out.below X7 HKA5.out.lt, HB5.out.trans (X7.mono HB5.out.size)⟩
                    case measure => simp [intOf]
                | true =>
                  have hyes : att (gv V0) e = true := by rw [HATT.out, hfin, hat]; rfl
                  have HYES := Lib.hid hyes
                  have hci : (chB (gv V0) es (k + 1) N)[n]? = some (choB (gv V0) es (k + 1) n) := chB_at hnN
                  obtain ⟨cc, hcc⟩ : ∃ cc, choB (gv V0) es (k + 1) n = cc := ⟨_, rfl⟩
                  rw [hcc] at hci
                  clear hyes hcc
                  go_region_held3 (fun w' => w'.cell? ⟨be, 0, none⟩ = some (.int .i64 (n : Nat)) ∧ w'.cell? ⟨be, 1, none⟩ = some (.slice e.A e.ts.length e.c) ∧ w'.cell? ⟨be, 2, none⟩ = some (.int .i64 e.cost) ∧ w'.cell? ⟨be, 3, none⟩ = some (.int .i64 e.l0) ∧ w'.cell? ⟨be, 4, none⟩ = some (.int .i64 e.l1) ∧ w'.cell? ⟨be + 1, 0, none⟩ = some (.int .i64 vn.c) ∧ w'.cell? ⟨be + 1, 1, none⟩ = some (.int .i64 vn.s) ∧ Below w6.heap.size w6 w')
                    (first | exact H9.out _ B8 | exact H9.out _ X7 | exact H9.out _ X5)
                    (first
                      | (go_at_call 37; (with_reducible refine (HT.out _ B8).mono ?_); rintro e5 w5 ⟨A5, c5, rfl, r5, hb5⟩; have X5 : Below w6.heap.size w6 w5 := B8.trans (hb5.mono (Nat.le_refl _)); have hz5 : w6.heap.size ≤ w5.heap.size := X5.size)
                      | (go_at_call 34; (with_reducible refine (HCB.out _ A5 c5 w5.heap.size r5 (Nat.le_refl _)).mono ?_); rintro e7 w7 ⟨rfl, hb7⟩; have X7 : Below w6.heap.size w6 w7 := X5.trans (hb7.mono hz5); have hz7 : w6.heap.size ≤ w7.heap.size := X7.size; have k0 : w7.cell? ⟨be, 0, none⟩ = some (.int .i64 (n : Nat)) := (HKE.out.below X7 HKE.out.lt).cell 0; have KA := HKA5.out.below X7 HKA5.out.lt; have HKA7 := Lib.hid KA; have a0 : w7.cell? ⟨ea, n, none⟩ = some (.int .i64 cc) := (by rw [KA.cell]; simp [ints, hci]); have a1 := KA.frozen n; clear KA))
                  clear hE
                  all_goals
                    clear hci
                    go_wp2_with fail
                    go_roundw
                    case rel =>
                      have n0 := HLT.out
                      refine ⟨k, _, by omega, rfl, by show Hid (_ = _); exact rfl, (HKH5.out.below X7 HKH5.out.lt).far (p := ⟨ea, n, none⟩) (by show bh ≠ ea; omega) _, (HKV5.out.below X7 HKV5.out.lt).far (p := ⟨ea, n, none⟩) (by show va ≠ ea; omega) _, ?_, (HB5.out.trans (X7.mono HB5.out.size)).setCell (p := ⟨ea, n, none⟩) (by show w.heap.size ≤ ea; omega) _⟩
                      rw [← chB_set (n := n) HEk.out (by rw [HN.out, Int.toNat_natCast]) HYES.out]
                      have := HKA7.out.set_ n (.int .i64 (k : Nat))
                      have e2 : (ints ((chB (gv V0) es (k + 1) N).set n (k : Int))).toArray = (ints (chB (gv V0) es (k + 1) N)).toArray.setIfInBounds n (.int .i64 (k : Nat)) := by simp [ints, List.map_set]
                      rw [e2]
                      exact this
                    case measure => simp [intOf]
        | true =>
          have hme : vmeas wr va = rks V0 := vmeas_eq HKV3.out
          have HME := Lib.hid hme
          have HPK : Hid (PassS false es V0 V0 0) := ⟨fun _ => ⟨rfl, fun j e hj => absurd hj (Nat.not_lt_zero _)⟩, fun h => by simp at h⟩
          clear hme HP3
          go_wp2_with fail
          rename World => w5
          go_loopw [7, 8] (fun x y wr => ∃ (k : Nat) (V : List Vl) (b : Bool), k ≤ M ∧ y = .int .i64 k ∧ x = .bool b ∧ V.length = N ∧ Hid (Blk wr bh 24 #[.int .i64 N, .slice E M ce]) ∧ Hid (Blk wr va 38 (vls V).toArray) ∧ Hid (Blk wr ea 3 (ints (List.replicate N (-1))).toArray) ∧ Hid (Below w.heap.size w wr) ∧ Hid (RInv es V) ∧ Hid (PassS b es V0 V k)) (fun _ y _ => M - (intOf y).toNat)
          case atStart => exact ⟨0, V0, false, Nat.zero_le _, rfl, rfl, hVl0, HKH3, HKV3, HKA3, HB3, HRI3, HPK⟩
          case round =>
            obtain ⟨k, V, b, hk, rfl, rfl, hVl, HKH4, HKV4, HKA4, HB4, HRI4, HP4⟩ := hrel
            clear HKH3 HKV3 HKA3 HB3 HRI3 HPK
            have c1 : wr.cell? ⟨bh, 1, none⟩ = some (.slice E M ce) := HKH4.out.cell 1
            by_cases hlt : k < M
            case neg =>
              have hltD : decide (k < M) = false := by simp [hlt]
              obtain rfl : M = k := by omega
              clear hlt hk
              go_wp2_with fail
              go_roundw
              case rel => exact ⟨V, b, rfl, hVl, HKH4, HKV4, HKA4, HB4, HRI4, fun h => by rw [HMM.out]; exact (HP4.out.1 h).2⟩
              case measure =>
                have e1 : vmeas wr va = rks V := vmeas_eq HKV4.out
                rw [HME.out, e1]
                cases b with
                | true => have := HP4.out.2 rfl; simp only; omega
                | false => have := (HP4.out.1 rfl).1; subst this; simp
            case pos =>
              have hltD : decide (k < M) = true := by simp [hlt]
              obtain ⟨b', off, e, hE', hb', he, p0, p1, p2, p3, p4, hR⟩ := (HE.out.below HB4.out).at_ hlt
              subst hE'
              have HRd := Lib.hid hR
              have HEk := Lib.hid he
              have heok := HES.out e (List.mem_of_getElem? he)
              obtain ⟨n, hn⟩ := Int.eq_ofNat_of_zero_le heok.hd.1
              have hnN : n < N := by have := heok.hd.2; omega
              have hbl : b' < wr.heap.size := by have := HB4.out.size; omega
              have HOKE := Lib.hid heok
              clear hR he heok
              rw [hn] at p0
              have HN := Lib.hid hn
              clear hn
              go_upto_region 14 with fail
              obtain ⟨w6, hw6⟩ : ∃ w6, wr.alloc (.cells #[.int .i64 (n : Nat), .slice e.A e.ts.length e.c, .int .i64 e.cost, .int .i64 e.l0, .int .i64 e.l1] 48) = w6 := ⟨_, rfl⟩
              obtain ⟨be, hbe⟩ : ∃ be, wr.heap.size = be := ⟨_, rfl⟩
              have HKE : Hid (Blk w6 be 48 #[.int .i64 (n : Nat), .slice e.A e.ts.length e.c, .int .i64 e.cost, .int .i64 e.l0, .int .i64 e.l1]) := by rw [← hw6, ← hbe]; exact Blk.new' wr _ _ rfl
              have hxb : Below wr.heap.size wr w6 := by rw [← hw6]; exact (Below.refl _ _).alloc (Nat.le_refl _) _
              have HKH5 := Lib.hid (HKH4.out.below hxb HKH4.out.lt)
              have HKV5 := Lib.hid (HKV4.out.below hxb HKV4.out.lt)
              have HKA5 := Lib.hid (HKA4.out.below hxb HKA4.out.lt)
              have HB5 : Hid (Below w.heap.size w w6) := HB4.out.trans (hxb.mono HB4.out.size)
              have HRd5 := Lib.hid (HRd.out.below (hxb.mono HB4.out.size))
              rw [hw6, hbe]
              clear hw6 hbe hxb HKH4 HKV4 HKA4 HB4 HRd p0 p1 p2 p3 p4 hbl hb' c1
              obtain ⟨vn, hvn⟩ : ∃ vn, gv V n = vn := ⟨_, rfl⟩
              have hvi : V[n]? = some vn := by rw [← hvn, gv, List.getElem?_eq_getElem (by omega)]; rfl
              obtain ⟨L, hL⟩ : ∃ L, tlv (gv V) e.ts = L := ⟨_, rfl⟩
              obtain ⟨y, hy⟩ : ∃ y, comb e.cost L = y := ⟨_, rfl⟩
              have hey : ev (gv V) e = y := by rw [← hy, ← hL]; rfl
              have hLl : L.length ≤ 4 := by rw [← hL]; simp only [tlv, List.length_map]; exact HOKE.out.few
              have HLO : Hid (∀ v ∈ L, Ordy v) := by rw [← hL]; exact tlv_ord HRI4.out.nV e.ts
              have HT : Hid (∀ w9, Below w6.heap.size w6 w9 → Calls Try.prog 37 #[.agg #[.int .i64 (n : Nat), .slice e.A e.ts.length e.c, .int .i64 e.cost, .int .i64 e.l0, .int .i64 e.l1], .slice (some ⟨va, 0, none⟩) N N] w9 (RetVls L w9)) := fun w9 h9 => by
                rw [← hL]
                exact rtails_any w9 w6.heap.size N N (some ⟨va, 0, none⟩) V n e.cost e.l0 e.l1 e.A e.c e.ts ((Reads.of_blk HKV5.out HKV5.out.lt (by simp) (by rw [vls_length, hVl])).below h9) ((HRd5.out.more HB5.out.size).below h9) h9.size HOKE.out.ts (by have := HOKE.out.few; omega)
              have HCB : Hid (∀ (w9 : World) (A : Option Addr) (c B : Nat), Reads w9 B 2 A L.length (vls L) → B ≤ w9.heap.size → Calls Try.prog 34 #[.int .i64 e.cost, .slice A L.length c] w9 fun e' w' => e' = .returned (.agg #[.int .i64 y.c, .int .i64 y.s]) ∧ Below w9.heap.size w9 w') := fun w9 A c B h1 h2 => by
                rw [← hy]
                exact rcombine_any e.cost A L.length c B L w9 h1 h2 HOKE.out.cost.1 HOKE.out.cost.2 HLO.out (by omega)
              have HY := Lib.hid hey
              have HVN := Lib.hid hvn
              have H9 : Hid (∀ w9, Below w6.heap.size w6 w9 → w9.cell? ⟨be, 0, none⟩ = some (.int .i64 (n : Nat)) ∧ w9.cell? ⟨be, 1, none⟩ = some (.slice e.A e.ts.length e.c) ∧ w9.cell? ⟨be, 2, none⟩ = some (.int .i64 e.cost) ∧ w9.cell? ⟨be, 3, none⟩ = some (.int .i64 e.l0) ∧ w9.cell? ⟨be, 4, none⟩ = some (.int .i64 e.l1) ∧ Below w6.heap.size w6 w9) := fun w9 h => by
                have K := HKE.out.below h HKE.out.lt
                exact ⟨K.cell 0, K.cell 1, K.cell 2, K.cell 3, K.cell 4, h⟩
              have B8 : Below w6.heap.size w6 w6.drew := (Below.refl _ _).drew
              have B8' : Below w6.heap.size w6 (w6.alloc (.cells #[.int .i64 0, .int .i64 0] 38)).drew := ((Below.refl _ w6).alloc (Nat.le_refl _) _).drew
              have Z8 : Blk (w6.alloc (.cells #[.int .i64 0, .int .i64 0] 38)).drew w6.heap.size 38 #[.int .i64 0, .int .i64 0] := (Blk.new' w6 38 #[.int .i64 0, .int .i64 0] (g := w6.heap.size) rfl).drew1
              have hz8 : w6.heap.size ≤ (w6.alloc (.cells #[.int .i64 0, .int .i64 0] 38)).drew.heap.size := B8'.size
              have hz8n := Z8.lt
              clear hvn hL hy hey
              go_cut [10] (fun x10 wx => ∃ g : Nat, x10 = .pointer (some ⟨g, 0, none⟩) ∧ Blk wx g 38 #[.int .i64 y.c, .int .i64 y.s] ∧ Below w6.heap.size w6 wx)
              case first =>
                go_region_held3 (fun w' => w'.cell? ⟨be, 0, none⟩ = some (.int .i64 (n : Nat)) ∧ w'.cell? ⟨be, 1, none⟩ = some (.slice e.A e.ts.length e.c) ∧ w'.cell? ⟨be, 2, none⟩ = some (.int .i64 e.cost) ∧ w'.cell? ⟨be, 3, none⟩ = some (.int .i64 e.l0) ∧ w'.cell? ⟨be, 4, none⟩ = some (.int .i64 e.l1) ∧ Below w6.heap.size w6 w')
                  (first | exact H9.out _ B8 | exact H9.out _ B8' | exact H9.out _ X7 | exact H9.out _ (X7.alloc hz7 _) | exact H9.out _ X5 | exact H9.out _ (X5.alloc hz5 _) | exact H9.out _ ((X7.setCell (Nat.le_refl _) _).setCell (Nat.le_refl _) _) | exact H9.out _ ((X7.setCell hz5 _).setCell hz5 _))
                  (first
                    | (go_at_call 37; (with_reducible refine (HT.out _ B8).mono ?_); rintro e5 w5 ⟨A5, c5, rfl, r5, hb5⟩; have X5 : Below w6.heap.size w6 w5 := B8.trans (hb5.mono (Nat.le_refl _)); have hz5 : w6.heap.size ≤ w5.heap.size := X5.size)
                    | (go_at_call 37; (with_reducible refine (HT.out _ B8').mono ?_); rintro e5 w5 ⟨A5, c5, rfl, r5, hb5⟩; have X5 : Below w6.heap.size w6 w5 := B8'.trans (hb5.mono hz8); have hz5 : w6.heap.size ≤ w5.heap.size := X5.size; have Z5 := Z8.below hb5 hz8n)
                    | (go_at_call 34; (with_reducible refine (HCB.out _ A5 c5 w5.heap.size r5 (Nat.le_refl _)).mono ?_); rintro e7 w7 ⟨rfl, hb7⟩; have X7 : Below w6.heap.size w6 w7 := X5.trans (hb7.mono hz5); have hz7 : w6.heap.size ≤ w7.heap.size := X7.size; have Z7 := Z5.below hb7 Z5.lt; have n0 := Z7.cell 0; have n1 := Z7.cell 1; have m0 := Z7.frozen 0; have m1 := Z7.frozen 1; simp at n0 n1)
                    | (go_at_call 34; (with_reducible refine (HCB.out _ A5 c5 w5.heap.size r5 (Nat.le_refl _)).mono ?_); rintro e7 w7 ⟨rfl, hb7⟩; have X7 : Below w6.heap.size w6 w7 := X5.trans (hb7.mono hz5); have hz7 : w6.heap.size ≤ w7.heap.size := X7.size)
                    | (go_at_call 34; (with_reducible refine (HCB.out _ A5 c5 w5.heap.size (r5.alloc (Nat.le_refl _) _) (Below.size ((Below.refl w5.heap.size w5).alloc (Nat.le_refl _) _))).mono ?_); rintro e7 w7 ⟨rfl, hb7⟩; have X7 : Below w6.heap.size w6 w7 := (X5.alloc hz5 _).trans (hb7.mono (Nat.le_trans hz5 (Below.size ((Below.refl w5.heap.size w5).alloc (Nat.le_refl _) _)))); have hz7 : w6.heap.size ≤ w7.heap.size := X7.size; have Z7 := (Blk.new' w5 38 #[.int .i64 0, .int .i64 0] rfl).below hb7 (Blk.new' w5 38 #[.int .i64 0, .int .i64 0] rfl).lt; have n0 := Z7.cell 0; have n1 := Z7.cell 1; have m0 := Z7.frozen 0; have m1 := Z7.frozen 1; simp at n0 n1))
                all_goals
                  go_wp2_with fail
                  go_meet
                  first
                    | exact ⟨_, rfl, Blk.new' w7 _ _ rfl, X7.alloc hz7 _⟩
                    | exact ⟨_, rfl, Z7.set2 _ _, (X7.setCell (Nat.le_refl _) _).setCell (Nat.le_refl _) _⟩
                    | exact ⟨_, rfl, Z7.set2 _ _, (X7.setCell hz5 _).setCell hz5 _⟩
              case rest =>
                obtain ⟨g, rfl, KY, X7⟩ := hcut
                rename World => w8
                have hgl := KY.lt
                have HKE8 := Lib.hid (HKE.out.below X7 HKE.out.lt)
                have HKH8 := Lib.hid (HKH5.out.below X7 HKH5.out.lt)
                have HKV8 := Lib.hid (HKV5.out.below X7 HKV5.out.lt)
                have HKA8 := Lib.hid (HKA5.out.below X7 HKA5.out.lt)
                have HB8 : Hid (Below w.heap.size w w8) := HB5.out.trans (X7.mono HB5.out.size)
                have HKY := Lib.hid KY
                clear H9 B8 B8' Z8 hz8 hz8n HT HCB HKE HKH5 HKV5 HKA5 HB5 HRd5 KY X7
                obtain ⟨v0, v1⟩ := HKV8.out.vl_at hvi
                have f0 := ext_cell (HKY.out.cell 0)
                have f1 := ext_cell (HKY.out.cell 1)
                have f2 := ext_cell (HKE8.out.cell 0)
                have f3 := ext_cell v0
                have f4 := ext_cell v1
                clear v0 v1
                have hoy : Ordy y := by rw [← HY.out]; exact (ev_nrm HRI4.out.nV HOKE.out.cost.1).1
                have hov : Ordy vn := by rw [← HVN.out]; exact (HRI4.out.nV n).1
                have HOO := Lib.hid (And.intro hoy hov)
                clear hoy hov
                have HL1 := Lib.hid (fun w => rless_any y.c y.s vn.c vn.s w)
                cases h1 : vlt y.c y.s vn.c vn.s with
                | false =>
                  rw [h1] at HL1
                  have HV1 := Lib.hid h1
                  clear h1 hvi
                  go_wp2_with fail
                  refine wp_region_ext (by kernel_rfl) (by kernel_rfl) ?_
                  repeat (go_big_quiet_step (exact calls_ext (HL1.out _)))
                  refine wpQuiet_nil ?_
                  rintro _ ⟨u, rfl⟩
                  clear f0 f1 f2 f3 f4
                  go_wp2_with fail
                  go_roundw
                  case rel =>
                    refine ⟨k + 1, V, b, by omega, by go_num, rfl, hVl, HKH8.out.below u.h HKH8.out.lt, HKV8.out.below u.h HKV8.out.lt, HKA8.out.below u.h HKA8.out.lt, HB8.out.trans (u.h.mono HB8.out.size), HRI4, ⟨fun h => ⟨(HP4.out.1 h).1, (HP4.out.1 h).2.next HEk.out ?_⟩, HP4.out.2⟩⟩
                    rw [HN.out, Int.toNat_natCast, HVN.out, HY.out]
                    apply Classical.byContradiction
                    intro hc
                    have := vlt_iff.2 hc
                    rw [HV1.out] at this
                    exact absurd this (by simp)
                  case measure => simp [intOf]; omega
                | true =>
                  rw [h1] at HL1
                  have HRK := Lib.hid (rks_set (u := y) hvi (vlt_rk HOO.out.1 HOO.out.2 h1))
                  have HVI := Lib.hid hvi
                  clear h1 hvi
                  go_wp2_with fail
                  refine wp_region_ext (by kernel_rfl) (by kernel_rfl) ?_
                  repeat (go_big_quiet_step (exact calls_ext (HL1.out _)))
                  refine wpQuiet_nil ?_
                  rintro _ ⟨u, rfl⟩
                  have g0 := f0 u
                  have g1 := f1 u
                  have g2 := f2 u
                  have g3 := f3 u
                  have g4 := f4 u
                  have z0 : u.W.frozen? ⟨va, n * 2, none⟩ = false := (HKV8.out.below u.h HKV8.out.lt).frozen (n * 2)
                  have z1 : u.W.frozen? ⟨va, n * 2 + 1, none⟩ = false := (HKV8.out.below u.h HKV8.out.lt).frozen (n * 2 + 1)
                  simp at g0 g1 g2
                  clear f0 f1 f2 f3 f4
                  go_wp2_with fail
                  go_roundw
                  case rel =>
                    have n0 := HLT.out
                    refine ⟨k + 1, V.set n y, true, by omega, by go_num, rfl, by rw [List.length_set]; exact hVl, ((HKH8.out.below u.h HKH8.out.lt).far (p := ⟨va, n * 2, none⟩) (by show bh ≠ va; omega) _).far (p := ⟨va, n * 2 + 1, none⟩) (by show bh ≠ va; omega) _, (HKV8.out.below u.h HKV8.out.lt).vl_put (by rw [hVl]; exact hnN) y, ((HKA8.out.below u.h HKA8.out.lt).far (p := ⟨va, n * 2, none⟩) (by show ea ≠ va; omega) _).far (p := ⟨va, n * 2 + 1, none⟩) (by show ea ≠ va; omega) _, ((HB8.out.trans (u.h.mono HB8.out.size)).setCell (p := ⟨va, n * 2, none⟩) (by show w.heap.size ≤ va; omega) _).setCell (p := ⟨va, n * 2 + 1, none⟩) (by show w.heap.size ≤ va; omega) _, ?_, ⟨fun h => by simp at h, fun _ => ?_⟩⟩
                    · rw [← HY.out]
                      exact HRI4.out.put (List.mem_of_getElem? HEk.out) HOKE.out.cost.1 (by rw [HN.out]; rfl) (by rw [hVl]; exact hnN)
                    · have h3 := HRK.out
                      cases b with
                      | true => have := HP4.out.2 rfl; omega
                      | false => rw [← (HP4.out.1 rfl).1]; exact h3
                  case measure => simp [intOf]; omega
end Go.Proofs.Ytbalhkbpmahkgaa

namespace Go.Proofs.Ytbalhkbpmahkgaa
open Go.RowKit

set_option maxHeartbeats 1000000 in
theorem samei_any (w : World) (A A' : Option Addr) (n c c' B B' : Nat) (l : List Int) (h : Reads w B 1 A n (ints l)) (h' : Reads w B' 1 A' n (ints l)) (hn : n ≤ 1000000) :
    Calls Try.prog 12 #[.slice A n c, .slice A' n c'] w fun e w' => e = .returned (.bool true) ∧ Below w.heap.size w w' := by
  have H := Lib.hid h
  have H' := Lib.hid h'
  clear h h'
  have hq : ((n : Int) != (n : Int)) = false := by simp
  go_enter Try.func12, Try.ntmps12
  go_wp2_with fail
  go_loopw [5] (fun x wr => ∃ k : Nat, k ≤ n ∧ x = .int .i64 k ∧ Hid (∃ j, wr = w.drewN j)) (fun x _ => n - (intOf x).toNat)
  case atStart => exact ⟨0, Nat.zero_le _, rfl, drew0 w⟩
  case round =>
    obtain ⟨k, hk, rfl, HW⟩ := hrel
    obtain ⟨j, rfl⟩ := HW.out
    by_cases hlt : k < n
    case pos =>
      have hltD : decide (k < n) = true := by simp [hlt]
      obtain ⟨b, off, hA, hb, p0⟩ := H.out.int_at hlt
      obtain ⟨b', off', hA', hb', p0'⟩ := H'.out.int_at hlt
      obtain ⟨x, hx⟩ : ∃ x, l[k]?.getD 0 = x := ⟨_, rfl⟩
      rw [hx] at p0 p0'
      subst hA hA'
      have hd : (x != x) = false := by simp
      clear hx
      go_wp2_with fail
      go_quiet (fail)
      go_wp2_with fail
      go_roundw
      case rel => exact ⟨k + 1, by omega, by go_num, drew1 w _⟩
      case measure => simp [intOf]; omega
    case neg =>
      have hltD : decide (k < n) = false := by simp [hlt]
      go_wp2_with fail
      go_ret
      exact ⟨rfl, below_drewN (Below.refl _ _) _⟩

end Go.Proofs.Ytbalhkbpmahkgaa

namespace Go.Proofs.Ytbalhkbpmahkgaa
open Go.RowKit

theorem vh_ways (N : Nat) (e : Ed) : decide (e.hd < 0) = true ∨ (decide (e.hd < 0) = false ∧ decide ((N : Int) ≤ e.hd) = true) ∨ (decide (e.hd < 0) = false ∧ decide ((N : Int) ≤ e.hd) = false ∧ decide (e.cost < 0) = true) ∨
    (decide (e.hd < 0) = false ∧ decide ((N : Int) ≤ e.hd) = false ∧ decide (e.cost < 0) = false ∧ decide (1099511627776 < e.cost) = true) ∨
    (decide (e.hd < 0) = false ∧ decide ((N : Int) ≤ e.hd) = false ∧ decide (e.cost < 0) = false ∧ decide (1099511627776 < e.cost) = false ∧ (0 ≤ e.hd ∧ e.hd < N) ∧ (0 ≤ e.cost ∧ e.cost ≤ 1099511627776)) := by
  simp only [decide_eq_true_eq, decide_eq_false_iff_not]
  omega
theorem vt_ways (N : Nat) (t : Int) : decide (t < 0) = true ∨ (decide (t < 0) = false ∧ decide ((N : Int) ≤ t) = true) ∨ (decide (t < 0) = false ∧ decide ((N : Int) ≤ t) = false ∧ 0 ≤ t ∧ t < N) := by
  simp only [decide_eq_true_eq, decide_eq_false_iff_not]
  omega
/-- What Valid says of a hyperedge. -/
structure Ed.Vd (e : Ed) (N : Nat) : Prop where
  hd : 0 ≤ e.hd ∧ e.hd < N
  cost : 0 ≤ e.cost ∧ e.cost ≤ 1099511627776
  ts : ∀ t ∈ e.ts, 0 ≤ t ∧ t < N
set_option maxRecDepth 100000 in
set_option maxHeartbeats 4000000 in
theorem valid_any (w : World) (Z : Int) (ce B : Nat) (E : Option Addr) (es : List Ed) (hE : HG w B E es.length es) (hB : B ≤ w.heap.size) (hM : es.length ≤ 1000000) (hT : ∀ e ∈ es, e.ts.length ≤ 1000000) :
    Calls Try.prog 35 #[.agg #[.int .i64 Z, .slice E es.length ce]] w (RetIf (∃ N : Nat, Z = N ∧ 1 ≤ N ∧ ∀ e ∈ es, e.Vd N) w) := by
  obtain ⟨M, hMM⟩ : ∃ M, es.length = M := ⟨_, rfl⟩
  rw [hMM] at hM ⊢
  have HE := Lib.hid (hE.more hB)
  rw [hMM] at HE
  have HMM := Lib.hid hMM
  have HTT := Lib.hid hT
  clear hE hMM hT
  by_cases hz : Z < 1
  case pos =>
    have hzD : decide (Z < 1) = true := by simp [hz]
    clear hz
    go_enter Try.func35, Try.ntmps35
    go_wp2_with fail
    go_ret
    exact ⟨false, rfl, fun h => by simp at h, (Below.refl _ _).alloc (Nat.le_refl _) _⟩
  case neg =>
  have hzD : decide (Z < 1) = false := by simp [hz]
  by_cases hz2 : 1048576 < Z
  case pos =>
    have hzD2 : decide (1048576 < Z) = true := by simp [hz2]
    clear hz hz2
    go_enter Try.func35, Try.ntmps35
    go_wp2_with fail
    go_ret
    exact ⟨false, rfl, fun h => by simp at h, (Below.refl _ _).alloc (Nat.le_refl _) _⟩
  case neg =>
  have hzD2 : decide (1048576 < Z) = false := by simp [hz2]
  obtain ⟨N, rfl⟩ := Int.eq_ofNat_of_zero_le (show 0 ≤ Z by omega)
  have hN1 : 1 ≤ N := by omega
  clear hz hz2
  go_enter Try.func35, Try.ntmps35
  go_wp2_with fail
  obtain ⟨w1, hw1⟩ : ∃ w1, w.alloc (.cells #[.int .i64 N, .slice E M ce] 24) = w1 := ⟨_, rfl⟩
  try simp only [Int.ofNat_eq_natCast]
  rw [hw1]
  obtain ⟨bh, hbh⟩ : ∃ bh, w.heap.size = bh := ⟨_, rfl⟩
  have HKH1 : Hid (Blk w1 bh 24 #[.int .i64 N, .slice E M ce]) := by rw [← hw1]; exact Blk.new' w _ _ hbh
  have HB1 : Hid (Below w.heap.size w w1) := by rw [← hw1]; exact (Below.refl _ _).alloc (Nat.le_refl _) _
  try rw [hbh]
  clear hw1 hbh hzD hzD2
  go_loopw [3] (fun x wr => ∃ k : Nat, k ≤ M ∧ x = .int .i64 k ∧ Hid (Blk wr bh 24 #[.int .i64 N, .slice E M ce]) ∧ Hid (Below w.heap.size w wr) ∧ Hid (∀ e ∈ es.take k, e.Vd N)) (fun x _ => M - (intOf x).toNat)
  case atStart => exact ⟨0, Nat.zero_le _, rfl, HKH1, HB1, fun e he => by simp at he⟩
  case round =>
    obtain ⟨k, hk, rfl, HKH2, HB2, HV2⟩ := hrel
    clear HKH1 HB1
    have c0 : wr.cell? ⟨bh, 0, none⟩ = some (.int .i64 N) := HKH2.out.cell 0
    have c1 : wr.cell? ⟨bh, 1, none⟩ = some (.slice E M ce) := HKH2.out.cell 1
    have hbl0 := HKH2.out.lt
    by_cases hlt : k < M
    case neg =>
      have hltD : decide (k < M) = false := by simp [hlt]
      obtain rfl : M = k := by omega
      go_wp2_with fail
      go_ret
      exact ⟨true, rfl, fun _ => ⟨N, rfl, hN1, fun e he => HV2.out e (by rw [← HMM.out, List.take_length]; exact he)⟩, HB2.out⟩
    case pos =>
      have hltD : decide (k < M) = true := by simp [hlt]
      obtain ⟨b', off, e, hE', hb', he, p0, p1, p2, p3, p4, hR⟩ := (HE.out.below HB2.out).at_ hlt
      subst hE'
      have HRd := Lib.hid hR
      have HEk := Lib.hid he
      have hbl : b' < wr.heap.size := by have := HB2.out.size; omega
      have hts := HTT.out e (List.mem_of_getElem? he)
      clear hR he
      go_upto_region 7 with fail
      obtain ⟨w6, hw6⟩ : ∃ w6, wr.alloc (.cells #[.int .i64 e.hd, .slice e.A e.ts.length e.c, .int .i64 e.cost, .int .i64 e.l0, .int .i64 e.l1] 48) = w6 := ⟨_, rfl⟩
      obtain ⟨be, hbe⟩ : ∃ be, wr.heap.size = be := ⟨_, rfl⟩
      have HKE : Hid (Blk w6 be 48 #[.int .i64 e.hd, .slice e.A e.ts.length e.c, .int .i64 e.cost, .int .i64 e.l0, .int .i64 e.l1]) := by rw [← hw6, ← hbe]; exact Blk.new' wr _ _ rfl
      have hxb : Below wr.heap.size wr w6 := by rw [← hw6]; exact (Below.refl _ _).alloc (Nat.le_refl _) _
      have HKH5 := Lib.hid (HKH2.out.below hxb HKH2.out.lt)
      have HB5 : Hid (Below w.heap.size w w6) := HB2.out.trans (hxb.mono HB2.out.size)
      have HRd5 := Lib.hid (HRd.out.below (hxb.mono HB2.out.size))
      rw [hw6, hbe]
      clear hw6 hbe hxb HKH2 HB2 HRd p0 p1 p2 p3 p4 hbl hb' c0 c1 hbl0
      have c0 : w6.cell? ⟨bh, 0, none⟩ = some (.int .i64 N) := HKH5.out.cell 0
      have k0 : w6.cell? ⟨be, 0, none⟩ = some (.int .i64 e.hd) := HKE.out.cell 0
      have k1 : w6.cell? ⟨be, 1, none⟩ = some (.slice e.A e.ts.length e.c) := HKE.out.cell 1
      have k2 : w6.cell? ⟨be, 2, none⟩ = some (.int .i64 e.cost) := HKE.out.cell 2
      rcases vh_ways N e with h1 | ⟨h1, h2⟩ | ⟨h1, h2, h3⟩ | ⟨h1, h2, h3, h4⟩ | ⟨h1, h2, h3, h4, ho1, ho2⟩
      case inr.inr.inr.inr =>
        have HO1 := Lib.hid (And.intro ho1 ho2)
        clear ho1 ho2
        go_wp2_with fail
        clear h1 h2 h3 h4 c0 k0 k1 k2
        obtain ⟨T, hT⟩ : ∃ T, e.ts.length = T := ⟨_, rfl⟩
        rw [hT] at HKE HRd5 hts
        have HTL := Lib.hid hT
        try rw [hT]
        clear hT
        go_loopw [5] (fun x wr => ∃ i : Nat, i ≤ T ∧ x = .int .i64 i ∧ Hid (∃ j, wr = w6.drewN j) ∧ Hid (∀ t ∈ e.ts.take i, 0 ≤ t ∧ t < (N : Int))) (fun x _ => T - (intOf x).toNat)
        case atStart => exact ⟨0, Nat.zero_le _, rfl, drew0 _, fun t ht => by simp at ht⟩
        case round =>
          obtain ⟨i, hi, rfl, HW, HTS⟩ := hrel
          obtain ⟨j, rfl⟩ := HW.out
          have c0 : w6.cell? ⟨bh, 0, none⟩ = some (.int .i64 N) := HKH5.out.cell 0
          have k1 : w6.cell? ⟨be, 1, none⟩ = some (.slice e.A T e.c) := HKE.out.cell 1
          by_cases hli : i < T
          case neg =>
            have hliD : decide (i < T) = false := by simp [hli]
            obtain rfl : T = i := by omega
            go_wp2_with fail
            go_roundw
            case rel => exact ⟨k + 1, by omega, by go_num, HKH5.out.drewN _, below_drewN HB5.out _, fun e' he' => by
              rw [List.take_add_one, HEk.out] at he'
              rcases List.mem_append.1 he' with h | h
              · exact HV2.out e' h
              · simp at h
                subst h
                exact ⟨HO1.out.1, HO1.out.2, fun t ht => HTS.out t (by rw [← HTL.out, List.take_length]; exact ht)⟩⟩
            case measure => simp [intOf]; omega
          case pos =>
            have hliD : decide (i < T) = true := by simp [hli]
            obtain ⟨bt, ot, hA, hbt, q0⟩ := HRd5.out.int_at hli
            obtain ⟨t, hti⟩ : ∃ t, e.ts[i]? = some t := ⟨_, List.getElem?_eq_getElem (by have := HTL.out; omega)⟩
            rw [hti] at q0
            simp only [Option.getD_some] at q0
            rw [hA] at k1
            have HTI := Lib.hid hti
            clear hti hA
            go_upto_region 12 with fail
            rcases vt_ways N t with h1 | ⟨h1, h2⟩ | ⟨h1, h2, h3⟩
            case inr.inr =>
              have HT3 := Lib.hid h3
              clear h3
              go_quiet (fail)
              go_wp2_with fail
              go_roundw
              case rel => exact ⟨i + 1, by omega, by go_num, drew1 _ _, fun u hu => by
                rw [List.take_add_one, HTI.out] at hu
                rcases List.mem_append.1 hu with h | h
                · exact HTS.out u h
                · simp at h; rw [h]; exact HT3.out⟩
              case measure => simp [intOf]; omega
            all_goals
              go_quiet (fail)
              go_wp2_with fail
              go_ret
              first
                | exact ⟨false, rfl, fun h => by simp at h, below_drewN HB5.out _⟩
                | exact ⟨false, rfl, fun h => by simp at h, below_drewN (below_drewN HB5.out _) _⟩
      all_goals
        go_wp2_with fail
        go_ret
        exact ⟨false, rfl, fun h => by simp at h, HB5.out⟩

/-- What Small says. -/
def IsSmall (Z : Int) (es : List Ed) : Prop := ∃ N : Nat, Z = N ∧ 1 ≤ N ∧ N ≤ 30 ∧ es.length ≤ 60 ∧ ∀ e ∈ es, e.Ok N
set_option maxRecDepth 100000 in
set_option maxHeartbeats 4000000 in
theorem small_any (w : World) (Z : Int) (ce B : Nat) (E : Option Addr) (es : List Ed) (hE : HG w B E es.length es) (hB : B ≤ w.heap.size) :
    Calls Try.prog 39 #[.agg #[.int .i64 Z, .slice E es.length ce]] w (RetIf (IsSmall Z es) w) := by
  have hb1 : Below w.heap.size w (w.alloc (.cells #[.int .i64 Z, .slice E es.length ce] 24)) := (Below.refl _ _).alloc (Nat.le_refl _) _
  by_cases hz : 30 < Z
  case pos =>
    have hzD : decide (30 < Z) = true := by simp [hz]
    clear hz
    go_enter Try.func39, Try.ntmps39
    go_wp2_with fail
    go_ret
    exact ⟨false, rfl, fun h => by simp at h, hb1⟩
  case neg =>
  have hzD : decide (30 < Z) = false := by simp [hz]
  by_cases hm : 60 < es.length
  case pos =>
    have hzD2 : decide (60 < es.length) = true := by simp [hm]
    have hzD3 : decide ((60 : Int) < (es.length : Int)) = true := by simp; omega
    clear hz hm
    go_enter Try.func39, Try.ntmps39
    go_wp2_with fail
    go_ret
    exact ⟨false, rfl, fun h => by simp at h, hb1⟩
  case neg =>
  have hzD2 : decide (60 < es.length) = false := by simp; omega
  have hzD3 : decide ((60 : Int) < (es.length : Int)) = false := by simp; omega
  obtain ⟨M, hMM⟩ : ∃ M, es.length = M := ⟨_, rfl⟩
  have HE := Lib.hid (hE.more hB)
  rw [hMM] at hzD2 hzD3 hm HE hb1 ⊢
  have HMM := Lib.hid hMM
  have hM : M ≤ 60 := by omega
  have HZ := Lib.hid hz
  clear hE hMM hm hz
  go_enter Try.func39, Try.ntmps39
  go_wp2_with fail
  obtain ⟨w1, hw1⟩ : ∃ w1, w.alloc (.cells #[.int .i64 Z, .slice E M ce] 24) = w1 := ⟨_, rfl⟩
  rw [hw1] at hb1 ⊢
  obtain ⟨bh, hbh⟩ : ∃ bh, w.heap.size = bh := ⟨_, rfl⟩
  have HKH1 : Hid (Blk w1 bh 24 #[.int .i64 Z, .slice E M ce]) := by rw [← hw1]; exact Blk.new' w _ _ hbh
  have HB1 := Lib.hid hb1
  try rw [hbh]
  clear hw1 hbh hzD hzD2 hzD3 hb1
  have HE1 := Lib.hid (HE.out.below HB1.out)
  go_loop [3] (fun x => ∃ k : Nat, k ≤ M ∧ x = .int .i64 k ∧ Hid (∀ e ∈ es.take k, e.ts.length ≤ 4)) (fun x => M - (intOf x).toNat)
  case atStart => exact ⟨0, Nat.zero_le _, rfl, fun e he => by simp at he⟩
  case round =>
    obtain ⟨k, hk, rfl, HV2⟩ := hrel
    have c0 : w1.cell? ⟨bh, 0, none⟩ = some (.int .i64 Z) := HKH1.out.cell 0
    have c1 : w1.cell? ⟨bh, 1, none⟩ = some (.slice E M ce) := HKH1.out.cell 1
    by_cases hlt : k < M
    case neg =>
      have hltD : decide (k < M) = false := by simp [hlt]
      obtain rfl : M = k := by omega
      go_wp2_with fail
      have hall : ∀ e ∈ es, e.ts.length ≤ 4 := fun e he => HV2.out e (by rw [← HMM.out, List.take_length]; exact he)
      have hv := valid_any w1 Z ce w1.heap.size E es (by rw [HMM.out]; exact HE1.out.more HB1.out.size) (Nat.le_refl _) (by rw [HMM.out]; omega) (fun e he => by have := hall e he; omega)
      rw [HMM.out] at hv
      have HALL := Lib.hid hall
      clear hall
      refine hv.mono ?_
      rintro e w2 ⟨b, rfl, hb, hbw⟩
      have HB := Lib.hid hb
      clear hv hb c0 c1
      go_wp2_with fail
      go_ret
      refine ⟨b, rfl, fun h => ?_, HB1.out.trans (hbw.mono HB1.out.size)⟩
      obtain ⟨N, h1, h2, h3⟩ := HB.out h
      have := HZ.out
      exact ⟨N, h1, h2, by omega, by rw [HMM.out]; exact hM, fun e he => ⟨(h3 e he).hd, (h3 e he).cost, (h3 e he).ts, HALL.out e he⟩⟩
    case pos =>
      have hltD : decide (k < M) = true := by simp [hlt]
      obtain ⟨b', off, e, hE', hb', he, p0, p1, p2, p3, p4, hR⟩ := HE1.out.at_ hlt
      rw [hE'] at c1
      have HEk := Lib.hid he
      clear hE' he hR
      by_cases h4 : 4 < e.ts.length
      case pos =>
        have h4D : decide (4 < e.ts.length) = true := by simp [h4]
        have h4D2 : decide ((4 : Int) < (e.ts.length : Int)) = true := by simp; omega
        clear h4
        go_wp2_with fail
        go_ret
        exact ⟨false, rfl, fun h => by simp at h, HB1.out⟩
      case neg =>
        have h4D : decide (4 < e.ts.length) = false := by simp; omega
        have h4D2 : decide ((4 : Int) < (e.ts.length : Int)) = false := by simp; omega
        have H4 := Lib.hid h4
        clear h4
        go_wp2_with fail
        go_round
        case rel => exact ⟨k + 1, by omega, by go_num, fun u hu => by
          rw [List.take_add_one, HEk.out] at hu
          rcases List.mem_append.1 hu with h | h
          · exact HV2.out u h
          · simp at h; rw [h]; have := H4.out; omega⟩
        case measure => simp [intOf]; omega

end Go.Proofs.Ytbalhkbpmahkgaa

namespace Go.Proofs.Ytbalhkbpmahkgaa
open Go.RowKit

/-- What Short says. -/
def IsShort (Z : Int) (es : List Ed) : Prop := ∃ N : Nat, Z = N ∧ 1 ≤ N ∧ N ≤ 30 ∧ es.length ≤ 60 ∧ (∀ e ∈ es, e.Ok N) ∧ ∃ V, Sol es V ∧ ∀ i, (V i).s ≤ 1000
set_option maxRecDepth 100000 in
set_option maxHeartbeats 4000000 in
theorem short_any (w : World) (Z : Int) (ce B : Nat) (E : Option Addr) (es : List Ed) (hE : HG w B E es.length es) (hB : B ≤ w.heap.size) :
    Calls Try.prog 27 #[.agg #[.int .i64 Z, .slice E es.length ce]] w (RetIf (IsShort Z es) w) := by
  have HE := Lib.hid (hE.more hB)
  clear hE
  obtain ⟨M, hMM⟩ : ∃ M, es.length = M := ⟨_, rfl⟩
  rw [hMM] at HE ⊢
  have HMM := Lib.hid hMM
  clear hMM
  go_enter Try.func27, Try.ntmps27
  go_wp2_with fail
  obtain ⟨w1, hw1⟩ : ∃ w1, w.alloc (.cells #[.int .i64 Z, .slice E M ce] 24) = w1 := ⟨_, rfl⟩
  rw [hw1]
  obtain ⟨bh, hbh⟩ : ∃ bh, w.heap.size = bh := ⟨_, rfl⟩
  have HKH1 : Hid (Blk w1 bh 24 #[.int .i64 Z, .slice E M ce]) := by rw [← hw1]; exact Blk.new' w _ _ hbh
  have HB1 : Hid (Below w.heap.size w w1) := by rw [← hw1]; exact (Below.refl _ _).alloc (Nat.le_refl _) _
  try rw [hbh]
  clear hw1 hbh
  have hs := small_any w1 Z ce w.heap.size E es (by rw [HMM.out]; exact HE.out.below HB1.out) HB1.out.size
  rw [HMM.out] at hs
  refine hs.mono ?_
  rintro e w2 ⟨b, rfl, hb, hbw⟩
  have HBB := Lib.hid hb
  have HKH2 := Lib.hid (HKH1.out.below hbw HKH1.out.lt)
  have HB2 : Hid (Below w.heap.size w w2) := HB1.out.trans (hbw.mono HB1.out.size)
  clear hs hb hbw HKH1 HB1
  cases b with
  | false =>
    go_wp2_with fail
    go_ret
    exact ⟨false, rfl, fun h => by simp at h, HB2.out⟩
  | true =>
    obtain ⟨N, hZ, hN1, hN2, hM, hok⟩ := HBB.out rfl
    subst hZ
    have HOK := Lib.hid hok
    have c0 : w2.cell? ⟨bh, 0, none⟩ = some (.int .i64 N) := HKH2.out.cell 0
    have c1 : w2.cell? ⟨bh, 1, none⟩ = some (.slice E M ce) := HKH2.out.cell 1
    clear hok HBB
    go_wp2_with fail
    have hs := rsolve_any w2 N ce w.heap.size E es (by rw [HMM.out]; exact HE.out.below HB2.out) HB2.out.size HOK.out hN2 hM
    rw [HMM.out] at hs
    refine hs.mono ?_
    rintro e w3 ⟨va, ea, V, rfl, hVl, KV, _, hsol, _, _, hbw⟩
    have HV := Lib.hid KV
    have HS := Lib.hid hsol
    have HB3 : Hid (Below w.heap.size w w3) := HB2.out.trans (hbw.mono HB2.out.size)
    clear hs hsol KV hbw c0 c1
    go_wp2_with fail
    go_loop [5] (fun x => ∃ k : Nat, k ≤ N ∧ x = .int .i64 k ∧ Hid (∀ i, i < k → (gv V i).s ≤ 1000)) (fun x => N - (intOf x).toNat)
    case atStart => exact ⟨0, Nat.zero_le _, rfl, fun i hi => absurd hi (Nat.not_lt_zero _)⟩
    case round =>
      obtain ⟨k, hk, rfl, HV2⟩ := hrel
      by_cases hlt : k < N
      case neg =>
        have hltD : decide (k < N) = false := by simp [hlt]
        obtain rfl : N = k := by omega
        go_wp2_with fail
        go_ret
        refine ⟨true, rfl, fun _ => ⟨N, rfl, hN1, hN2, hM, HOK.out, gv V, HS.out, fun i => ?_⟩, HB3.out⟩
        by_cases hi : i < N
        · exact HV2.out i hi
        · rw [gv, List.getElem?_eq_none (by omega)]
          decide
      case pos =>
        have hltD : decide (k < N) = true := by simp [hlt]
        obtain ⟨v, hv⟩ : ∃ v, V[k]? = some v := ⟨_, List.getElem?_eq_getElem (by omega)⟩
        obtain ⟨v0, v1⟩ := HV.out.vl_at hv
        have hgv : gv V k = v := by rw [gv, hv]; rfl
        have HGV := Lib.hid hgv
        clear hv hgv
        by_cases h4 : 1000 < v.s
        case pos =>
          have h4D : decide (1000 < v.s) = true := by simp [h4]
          clear h4
          go_wp2_with fail
          go_ret
          exact ⟨false, rfl, fun h => by simp at h, HB3.out⟩
        case neg =>
          have h4D : decide (1000 < v.s) = false := by simp; omega
          have H4 := Lib.hid h4
          clear h4
          go_wp2_with fail
          go_round
          case rel => exact ⟨k + 1, by omega, by go_num, fun i hi => by
            by_cases hik : i = k
            · subst hik; rw [HGV.out]; have := H4.out; omega
            · exact HV2.out i (by omega)⟩
          case measure => simp [intOf]; omega
end Go.Proofs.Ytbalhkbpmahkgaa
