/- The law OutsideUnreachable. -/
import Derived.Test.YtbalhkbpmahkgaaOMo
import Derived.Test.YtbalhkbpmahkgaaOMc
import Derived.Test.YtbalhkbpmahkgaaOMh
import Derived.Deep.DeepCutAuto
import Derived.Test.YtbalhkbpmahkgaaOMd
namespace Go.Proofs.Ytbalhkbpmahkgaa
open Go.RowKit

/-- The tails of a hyperedge whose head is in are in. -/
def RCl (D : List Bool) (e : Ed) : Prop := inD D e.hd = true → ∀ t ∈ e.ts, inD D t = true
def RIn (D : List Bool) (root : Int) : Prop := ∀ i : Nat, i < D.length → (i : Int) = root → D[i]? = some true
def RPassF (b : Bool) (es : List Ed) (D : List Bool) : Prop := b = false → ∀ e ∈ es, RCl D e
def RPassD (b : Bool) (es : List Ed) (D0 D : List Bool) (k : Nat) : Prop := (b = false → D = D0 ∧ ∀ (j : Nat) (e : Ed), j < k → es[j]? = some e → RCl D e) ∧ (b = true → outs D < outs D0)
def RPassT (b : Bool) (es : List Ed) (D0 D : List Bool) (k : Nat) (e : Ed) (m : Nat) : Prop := (b = false → D = D0 ∧ (∀ (j : Nat) (e : Ed), j < k → es[j]? = some e → RCl D e) ∧ ∀ (i : Nat) (t : Int), i < m → e.ts[i]? = some t → inD D t = true) ∧ (b = true → outs D < outs D0)
section
variable {b : Bool} {es : List Ed} {D0 D : List Bool} {k m : Nat} {e : Ed}
theorem RPassD.start (es : List Ed) (D : List Bool) : RPassD false es D D 0 := ⟨fun _ => ⟨rfl, fun j e hj => absurd hj (Nat.not_lt_zero _)⟩, fun h => by simp at h⟩
theorem RPassD.done (h : RPassD b es D0 D es.length) : RPassF b es D := fun hb e he => by
  obtain ⟨i, hi⟩ := List.getElem?_of_mem he
  exact (h.1 hb).2 i e (List.getElem?_eq_some_iff.1 hi).1 hi
theorem RPassT.start (h : RPassD b es D0 D k) (e : Ed) : RPassT b es D0 D k e 0 := ⟨fun hb => ⟨(h.1 hb).1, (h.1 hb).2, fun i t hi => absurd hi (Nat.not_lt_zero _)⟩, h.2⟩
theorem RPassT.close (h : RPassT b es D0 D k e m) (he : es[k]? = some e) (hc : b = false → RCl D e) : RPassD b es D0 D (k + 1) := ⟨fun hb => ⟨(h.1 hb).1, fun j e' hj he' => by
  by_cases hjk : j = k
  · subst hjk
    rw [he] at he'
    injection he' with he'
    subst he'
    exact hc hb
  · exact (h.1 hb).2.1 j e' (by omega) he'⟩, h.2⟩
theorem RPassT.all (h : RPassT b es D0 D k e e.ts.length) (hb : b = false) : RCl D e := fun _ t ht => by
  obtain ⟨i, hi⟩ := List.getElem?_of_mem ht
  exact (h.1 hb).2.2 i t (List.getElem?_eq_some_iff.1 hi).1 hi
theorem RPassT.skip {t : Int} (h : RPassT b es D0 D k e m) (ht : e.ts[m]? = some t) (hin : inD D t = true) : RPassT b es D0 D k e (m + 1) := ⟨fun hb => ⟨(h.1 hb).1, (h.1 hb).2.1, fun i t' hi ht' => by
  by_cases him : i = m
  · subst him
    rw [ht] at ht'
    injection ht' with ht'
    subst ht'
    exact hin
  · exact (h.1 hb).2.2 i t' (by omega) ht'⟩, h.2⟩
theorem RPassT.put {t : Nat} (h : RPassT b es D0 D k e m) (ht : D[t]? = some false) : RPassT true es D0 (D.set t true) k e (m + 1) := ⟨fun hb => by simp at hb, fun _ => by
  have h1 := outs_set ht
  cases b with
  | true => have := h.2 rfl; omega
  | false => have := (h.1 rfl).1; subst this; exact h1⟩
theorem RIn.put {root : Int} (h : RIn D root) (t : Nat) : RIn (D.set t true) root := fun i hi hr => by
  rw [List.length_set] at hi
  rw [List.getElem?_set]
  by_cases hti : t = i
  · rw [if_pos hti, if_pos (by omega)]
  · rw [if_neg hti]; exact h i hi hr
end
def RchPost (w : World) (N : Nat) (es : List Ed) (root : Int) (e : Ending) (w' : World) : Prop := ∃ (da : Nat) (D : List Bool), e = .returned (.slice (some ⟨da, 0, none⟩) N N) ∧ D.length = N ∧ Blk w' da 4 (bools D).toArray ∧ RIn D root ∧ (∀ e ∈ es, RCl D e) ∧ Below w.heap.size w w'
set_option maxRecDepth 100000 in
set_option maxHeartbeats 4000000 in
theorem reachable_any (w : World) (N ce B : Nat) (E : Option Addr) (es : List Ed) (root : Int) (hE : HG w B E es.length es) (hB : B ≤ w.heap.size) (hes : ∀ e ∈ es, e.Ok N) (hN : N ≤ 30) (hM : es.length ≤ 60) :
    Calls Try.prog 25 #[.agg #[.int .i64 N, .slice E es.length ce], .int .i64 root] w (RchPost w N es root) := by
  obtain ⟨M, hMM⟩ : ∃ M, es.length = M := ⟨_, rfl⟩
  rw [hMM] at hM ⊢
  have HE := Lib.hid (hE.more hB)
  rw [hMM] at HE
  have HES := Lib.hid hes
  have HMM := Lib.hid hMM
  clear hE hes hMM
  have hb := mk_bools N (by omega)
  go_enter Try.func25, Try.ntmps25
  go_upto_region 2 with fail
  obtain ⟨w1, hw1⟩ : ∃ w1, (w.alloc (.cells #[.int .i64 N, .slice E M ce] 24)).alloc (.cells (bools (List.replicate N false)).toArray 4) = w1 := ⟨_, rfl⟩
  rw [hw1]
  obtain ⟨bh, hbh⟩ : ∃ bh, w.heap.size = bh := ⟨_, rfl⟩
  obtain ⟨da, hda⟩ : ∃ da, bh + 1 = da := ⟨_, rfl⟩
  have HKH1 : Hid (Blk w1 bh 24 #[.int .i64 N, .slice E M ce]) := by rw [← hw1]; exact (Blk.new' w _ _ hbh).alloc _
  have HKD1 : Hid (Blk w1 da 4 (bools (List.replicate N false)).toArray) := by rw [← hw1]; exact Blk.new' _ _ _ (by simp; omega)
  have HB1 : Hid (Below w.heap.size w w1) := by rw [← hw1]; exact ((Below.refl _ _).alloc (Nat.le_refl _) _).alloc (by simp) _
  have HLT : Hid (w.heap.size ≤ bh ∧ bh < da) := ⟨by omega, by omega⟩
  try rw [hbh]
  try rw [hda]
  clear hw1 hbh hda hb
  have c0 : w1.cell? ⟨bh, 0, none⟩ = some (.int .i64 N) := HKH1.out.cell 0
  have HNO : Hid ((∀ i : Nat, i < N → (i : Int) ≠ root) → RchPost w N es root (.returned (.slice (some ⟨da, 0, none⟩) N N)) w1) := fun hr =>
    ⟨da, List.replicate N false, rfl, by simp, HKD1.out, fun i hi h => absurd h (hr i (by simpa using hi)), fun e he h => by
      have : inD (List.replicate N false) e.hd = false := by
        unfold inD
        rw [List.getElem?_replicate]
        split <;> rfl
      rw [this] at h
      simp at h, HB1.out⟩
  rcases root_ways N root with h1 | ⟨h1, h2⟩ | ⟨r, rfl, hr⟩
  case inl =>
    have HRR := Lib.hid (HNO.out (fun i _ h => by simp at h1; omega))
    clear HNO
    go_wp2_with fail
    go_ret
    exact HRR.out
  case inr.inl =>
    have HRR := Lib.hid (HNO.out (fun i hi h => by simp at h2; omega))
    clear HNO
    go_wp2_with fail
    go_ret
    exact HRR.out
  have h1 : decide ((r : Int) < 0) = false := by simp
  have h2 : decide ((N : Int) ≤ (r : Int)) = false := by simp; omega
  have h2' : decide (N ≤ r) = false := by simp; omega
  have hrep : (List.replicate N false)[r]? = some false := by rw [List.getElem?_replicate, if_pos hr]
  have x0 := HKD1.out.bool_at hrep
  have y0 := HKD1.out.frozen r
  have hda : bh ≠ da := by have := HLT.out; omega
  have HKD2 : Hid (Blk (w1.setCell ⟨da, r, none⟩ (.bool true)) da 4 (bools ((List.replicate N false).set r true)).toArray) := HKD1.out.bool_put r true
  have HKH2 : Hid (Blk (w1.setCell ⟨da, r, none⟩ (.bool true)) bh 24 #[.int .i64 N, .slice E M ce]) := HKH1.out.far (p := ⟨da, r, none⟩) hda _
  have HB2 : Hid (Below w.heap.size w (w1.setCell ⟨da, r, none⟩ (.bool true))) := HB1.out.setCell (p := ⟨da, r, none⟩) (by have := HLT.out; show w.heap.size ≤ da; omega) _
  have HRI2 : Hid (RIn ((List.replicate N false).set r true) (r : Nat)) := fun i hi h => by
    have : i = r := by omega
    subst this
    rw [List.getElem?_set, if_pos rfl, if_pos (by simpa using hr)]
  have HPF2 : Hid (RPassF true es ((List.replicate N false).set r true)) := fun h => by simp at h
  clear HNO hrep
  go_wp2_with fail
  clear h1 h2 h2' x0 y0 c0 HKD1 HKH1 HB1
  go_loopw [6] (fun x wr => ∃ (D : List Bool) (b : Bool), x = .bool b ∧ Hid (D.length = N) ∧ Hid (Blk wr bh 24 #[.int .i64 N, .slice E M ce]) ∧ Hid (Blk wr da 4 (bools D).toArray) ∧ Hid (Below w.heap.size w wr) ∧ Hid (RIn D (r : Nat)) ∧ Hid (RPassF b es D)) (fun x wr => 2 * bmeas wr da + (match x with | .bool true => 1 | _ => 0))
  case atStart => exact ⟨_, true, rfl, Lib.hid (by simp), HKH2, HKD2, HB2, HRI2, HPF2⟩
  case round =>
    obtain ⟨D0, b, rfl, HDL0, HKH2, HKD2, HB2, HRI0, HPF0⟩ := hrel
    cases b with
    | false =>
      go_wp2_with fail
      go_ret
      exact ⟨da, D0, rfl, HDL0.out, HKD2.out, HRI0.out, HPF0.out rfl, HB2.out⟩
    | true =>
      have hme : bmeas wr da = outs D0 := bmeas_eq HKD2.out
      have HME := Lib.hid hme
      have HPK : Hid (RPassD false es D0 D0 0) := RPassD.start es D0
      clear hme HPF0
      go_wp2_with fail
      rename World => w5
      go_loopw [6, 7] (fun x y wr => ∃ (k : Nat) (D : List Bool) (b : Bool), k ≤ M ∧ y = .int .i64 k ∧ x = .bool b ∧ Hid (D.length = N) ∧ Hid (Blk wr bh 24 #[.int .i64 N, .slice E M ce]) ∧ Hid (Blk wr da 4 (bools D).toArray) ∧ Hid (Below w.heap.size w wr) ∧ Hid (RIn D (r : Nat)) ∧ Hid (RPassD b es D0 D k)) (fun _ y _ => M - (intOf y).toNat)
      case atStart => exact ⟨0, D0, false, Nat.zero_le _, rfl, rfl, HDL0, HKH2, HKD2, HB2, HRI0, HPK⟩
      case round =>
        obtain ⟨k, D, b, hk, rfl, rfl, HDL, HKH, HKD, HB, HRI, HP⟩ := hrel
        clear HKH2 HKD2 HB2 HPK
        have c1 : wr.cell? ⟨bh, 1, none⟩ = some (.slice E M ce) := HKH.out.cell 1
        by_cases hlt : k < M
        case neg =>
          have hltD : decide (k < M) = false := by simp [hlt]
          obtain rfl : M = k := by omega
          have HPF : Hid (RPassF b es D) := RPassD.done (by have h := HP.out; rw [← HMM.out] at h; exact h)
          go_wp2_with fail
          go_roundw
          case rel => exact ⟨D, b, rfl, HDL, HKH, HKD, HB, HRI, HPF⟩
          case measure =>
            have e1 : bmeas wr da = outs D := bmeas_eq HKD.out
            rw [HME.out, e1]
            cases b with
            | true => have := HP.out.2 rfl; simp only; omega
            | false => have := (HP.out.1 rfl).1; subst this; simp
        case pos => as_aux_lemma =>
          have hltD : decide (k < M) = true := by simp [hlt]
          obtain ⟨b', off, e, hE', hb', he, p0, p1, p2, p3, p4, hRt⟩ := (HE.out.below HB.out).at_ hlt
          have hoke := HES.out e (List.mem_of_getElem? he)
          have HOKE := Lib.hid hoke
          have HEk := Lib.hid he
          obtain ⟨v, hv⟩ := Int.eq_ofNat_of_zero_le hoke.hd.1
          have hvN : v < N := by have := hoke.hd.2; omega
          rw [hv] at p0
          have HHV := Lib.hid hv
          obtain ⟨T, hT⟩ : ∃ T, e.ts.length = T := ⟨_, rfl⟩
          obtain ⟨eA, heA⟩ : ∃ eA, e.A = eA := ⟨_, rfl⟩
          rw [hT, heA] at p1
          have HRT : Hid (Reads w w.heap.size 1 eA T (ints e.ts)) := by
            rw [← hT, ← heA]
            exact HE.out.2 e (List.mem_of_getElem? he)
          have HTT := Lib.hid hT
          have hT4 : T ≤ 4 := by rw [← hT]; exact hoke.few
          rw [hE'] at c1
          clear hRt he hoke hv hT heA hE'
          go_upto_region 12 with fail
          obtain ⟨w6, hw6⟩ : ∃ w6, wr.alloc (.cells #[.int .i64 (v : Nat), .slice eA T e.c, .int .i64 e.cost, .int .i64 e.l0, .int .i64 e.l1] 48) = w6 := ⟨_, rfl⟩
          obtain ⟨be, hbe⟩ : ∃ be, wr.heap.size = be := ⟨_, rfl⟩
          have hx6 : Below wr.heap.size wr w6 := by rw [← hw6]; exact (Below.refl _ _).alloc (Nat.le_refl _) _
          have HKE6 : Hid (Blk w6 be 48 #[.int .i64 (v : Nat), .slice eA T e.c, .int .i64 e.cost, .int .i64 e.l0, .int .i64 e.l1]) := by rw [← hw6, ← hbe]; exact Blk.new' wr _ _ rfl
          have HKH6 := Lib.hid (HKH.out.below hx6 HKH.out.lt)
          have HKD6 := Lib.hid (HKD.out.below hx6 HKD.out.lt)
          have HB6 : Hid (Below w.heap.size w w6) := HB.out.trans (hx6.mono HB.out.size)
          have HP6 : Hid (RPassT b es D0 D k e 0) := RPassT.start HP.out e
          have HBE : Hid (da < be) := by rw [← hbe]; exact HKD.out.lt
          try rw [hw6]
          try rw [hbe]
          clear hw6 hbe hx6 HKH HKD HB HP c1 p0 p1 p2 p3 p4 hb'
          go_wp2_with fail
          go_loopw [6, 9] (fun x y wr => ∃ (m : Nat) (D : List Bool) (b : Bool), m ≤ T ∧ y = .int .i64 m ∧ x = .bool b ∧ Hid (D.length = N) ∧ Hid (Blk wr bh 24 #[.int .i64 N, .slice E M ce]) ∧ Hid (Blk wr da 4 (bools D).toArray) ∧ Hid (Below w.heap.size w wr) ∧ Hid (RIn D (r : Nat)) ∧ Hid (RPassT b es D0 D k e m) ∧ Hid (Blk wr be 48 #[.int .i64 (v : Nat), .slice eA T e.c, .int .i64 e.cost, .int .i64 e.l0, .int .i64 e.l1])) (fun _ y _ => T - (intOf y).toNat)
          case atStart => exact ⟨0, D, b, Nat.zero_le _, rfl, rfl, HDL, HKH6, HKD6, HB6, HRI, HP6, HKE6⟩
          case round =>
            obtain ⟨m, D, b, hm, rfl, rfl, HDL, HKH, HKD, HB, HRI, HP, HKE⟩ := hrel
            clear HKH6 HKD6 HB6 HP6 HKE6
            have e0 : wr.cell? ⟨be, 0, none⟩ = some (.int .i64 (v : Nat)) := HKE.out.cell 0
            have e1 : wr.cell? ⟨be, 1, none⟩ = some (.slice eA T e.c) := HKE.out.cell 1
            by_cases hlm : m < T
            case neg => as_aux_lemma =>
              have hlmD : decide (m < T) = false := by simp [hlm]
              obtain rfl : T = m := by omega
              have HPD : Hid (RPassD b es D0 D (k + 1)) := HP.out.close HEk.out (fun hb => RPassT.all (by rw [HTT.out]; exact HP.out) hb)
              go_wp2_with fail
              go_roundw
              case rel => exact ⟨k + 1, D, b, by omega, by go_num, rfl, HDL, HKH, HKD, HB, HRI, HPD⟩
              case measure => simp [intOf]; omega
            case pos => as_aux_lemma =>
              have hlmD : decide (m < T) = true := by simp [hlm]
              obtain ⟨dv, hdv⟩ : ∃ dv, D[v]? = some dv := ⟨_, List.getElem?_eq_getElem (by rw [HDL.out]; exact hvN)⟩
              have d0 := HKD.out.bool_at hdv
              have HDV := Lib.hid hdv
              clear hdv
              cases dv with
              | false =>
                have HPD : Hid (RPassD b es D0 D (k + 1)) := HP.out.close HEk.out (fun _ h => by rw [HHV.out] at h; simp [inD, HDV.out] at h)
                go_wp2_with fail
                go_roundw
                case rel => exact ⟨k + 1, D, b, by omega, by go_num, rfl, HDL, HKH, HKD, HB, HRI, HPD⟩
                case measure => simp [intOf]; omega
              | true =>
                obtain ⟨bt, ot, hA, hbt, q0⟩ := (HRT.out.below HB.out).int_at hlm
                obtain ⟨t', hti⟩ : ∃ t', e.ts[m]? = some t' := ⟨_, List.getElem?_eq_getElem (by have := HTT.out; omega)⟩
                rw [hti] at q0
                simp only [Option.getD_some] at q0
                obtain ⟨t0, t1⟩ := HOKE.out.ts t' (List.mem_of_getElem? hti)
                obtain ⟨t, rfl⟩ := Int.eq_ofNat_of_zero_le t0
                have htN : t < N := by omega
                have HTI := Lib.hid hti
                subst hA
                obtain ⟨dt, hdt⟩ : ∃ dt, D[t]? = some dt := ⟨_, List.getElem?_eq_getElem (by rw [HDL.out]; exact htN)⟩
                have d1 := HKD.out.bool_at hdt
                have HDT := Lib.hid hdt
                clear hti hdt t0 t1 hbt
                cases dt with
                | true =>
                  have HPT : Hid (RPassT b es D0 D k e (m + 1)) := HP.out.skip HTI.out (by simp [inD, HDT.out])
                  go_wp2_with fail
                  go_roundw
                  case rel => exact ⟨m + 1, D, b, by omega, by go_num, rfl, HDL, HKH, HKD, HB, HRI, HPT, HKE⟩
                  case measure => simp [intOf]; omega
                | false =>
                  have HPT : Hid (RPassT true es D0 (D.set t true) k e (m + 1)) := HP.out.put HDT.out
                  have z0 := HKD.out.frozen t
                  have HKDf : Hid (Blk (wr.setCell ⟨da, t, none⟩ (.bool true)) da 4 (bools (D.set t true)).toArray) := HKD.out.bool_put t true
                  have HKHf : Hid (Blk (wr.setCell ⟨da, t, none⟩ (.bool true)) bh 24 #[.int .i64 N, .slice E M ce]) := HKH.out.far (p := ⟨da, t, none⟩) hda _
                  have HKEf : Hid (Blk (wr.setCell ⟨da, t, none⟩ (.bool true)) be 48 #[.int .i64 (v : Nat), .slice (some ⟨bt, ot, none⟩) T e.c, .int .i64 e.cost, .int .i64 e.l0, .int .i64 e.l1]) := HKE.out.far (p := ⟨da, t, none⟩) (by have := HBE.out; show be ≠ da; omega) _
                  have HBf : Hid (Below w.heap.size w (wr.setCell ⟨da, t, none⟩ (.bool true))) := HB.out.setCell (p := ⟨da, t, none⟩) (by have := HLT.out; show w.heap.size ≤ da; omega) _
                  have HDLf : Hid ((D.set t true).length = N) := by rw [List.length_set]; exact HDL
                  have HRIf : Hid (RIn (D.set t true) (r : Nat)) := HRI.out.put t
                  go_wp2_with fail
                  go_roundw
                  case rel => exact ⟨m + 1, D.set t true, true, by omega, by go_num, rfl, HDLf, HKHf, HKDf, HBf, HRIf, HPT, HKEf⟩
                  case measure => simp [intOf]; omega
end Go.Proofs.Ytbalhkbpmahkgaa

namespace Go.Proofs.Ytbalhkbpmahkgaa
open Go.RowKit

set_option maxRecDepth 100000 in
set_option maxHeartbeats 8000000 in
theorem lawUnr_any (Z : Int) (ce B : Nat) (E : Option Addr) (es : List Ed) (root : Int) (w : World) (hE : HG w B E es.length es) (hB : B ≤ w.heap.size) : Calls Try.prog 8 #[.agg #[.int .i64 Z, .slice E es.length ce], .int .i64 root] w fun e w' => e = .returned (.bool true) ∧ Below w.heap.size w w' := by
  have HE := Lib.hid (hE.more hB)
  clear hE
  obtain ⟨M, hMM⟩ : ∃ M, es.length = M := ⟨_, rfl⟩
  rw [hMM] at HE ⊢
  have HMM := Lib.hid hMM
  clear hMM
  go_enter Try.func8, Try.ntmps8
  go_wp2_with fail
  obtain ⟨w0, hw0⟩ : ∃ w0, w.alloc (.cells #[.int .i64 Z, .slice E M ce] 24) = w0 := ⟨_, rfl⟩
  rw [hw0]
  obtain ⟨bh, hbh⟩ : ∃ bh, w.heap.size = bh := ⟨_, rfl⟩
  have HKH0 : Hid (Blk w0 bh 24 #[.int .i64 Z, .slice E M ce]) := by rw [← hw0]; exact Blk.new' w _ _ hbh
  have HB0 : Hid (Below w.heap.size w w0) := by rw [← hw0]; exact (Below.refl _ _).alloc (Nat.le_refl _) _
  try rw [hbh]
  have HBH := Lib.hid hbh
  clear hw0 hbh
  refine (awake_any w0).mono ?_
  rintro e w1 ⟨rfl, hb1⟩
  have HKH1 := Lib.hid (HKH0.out.below hb1 HKH0.out.lt)
  have HB1 : Hid (Below w.heap.size w w1) := HB0.out.trans (hb1.mono HB0.out.size)
  clear hb1 HKH0 HB0
  have c0 : w1.cell? ⟨bh, 0, none⟩ = some (.int .i64 Z) := HKH1.out.cell 0
  have c1 : w1.cell? ⟨bh, 1, none⟩ = some (.slice E M ce) := HKH1.out.cell 1
  go_wp2_with fail
  have hs := small33_any w1 Z ce w.heap.size E es (by rw [HMM.out]; exact HE.out.below HB1.out) HB1.out.size
  rw [HMM.out] at hs
  refine hs.mono ?_
  rintro e w2 ⟨b, rfl, hb, hbw⟩
  have HBB := Lib.hid hb
  have HKH2 := Lib.hid (HKH1.out.below hbw HKH1.out.lt)
  have HB2 : Hid (Below w.heap.size w w2) := HB1.out.trans (hbw.mono HB1.out.size)
  clear hs hb hbw HKH1 HB1 c0 c1
  cases b with
  | false =>
    go_wp2_with fail
    go_ret
    exact ⟨rfl, HB2.out⟩
  | true =>
  obtain ⟨N, hZ, hN1, hN2, hM, hok, V0, hsol0, hsz0⟩ := HBB.out rfl
  rw [HMM.out] at hM
  subst hZ
  have HOK := Lib.hid hok
  have HS0 := Lib.hid (And.intro hsol0 hsz0)
  have c0 : w2.cell? ⟨bh, 0, none⟩ = some (.int .i64 N) := HKH2.out.cell 0
  have c1 : w2.cell? ⟨bh, 1, none⟩ = some (.slice E M ce) := HKH2.out.cell 1
  clear hok HBB hsol0 hsz0
  have H9 : Hid (∀ w9, Below w2.heap.size w2 w9 → w9.cell? ⟨bh, 0, none⟩ = some (.int .i64 N) ∧ w9.cell? ⟨bh, 1, none⟩ = some (.slice E M ce) ∧ Below w2.heap.size w2 w9) := fun w9 h => by
    have K := HKH2.out.below h HKH2.out.lt
    exact ⟨K.cell 0, K.cell 1, h⟩
  have HCPO : Hid (∀ w9, Below w2.heap.size w2 w9 → Calls Try.prog 13 #[.agg #[.int .i64 N, .slice E M ce], .int .i64 root] w9 (RetL N (IsOut es root N) w9)) := fun w9 h9 => by
    have hb9 : Below w.heap.size w w9 := HB2.out.trans (h9.mono HB2.out.size)
    have h := poutside_any w9 N ce w.heap.size E es root (by rw [HMM.out]; exact HE.out.below hb9) hb9.size HOK.out hN2 hN1 (by rw [HMM.out]; exact hM)
    rw [HMM.out] at h
    exact h
  have HCR : Hid (∀ w9, Below w2.heap.size w2 w9 → Calls Try.prog 25 #[.agg #[.int .i64 N, .slice E M ce], .int .i64 root] w9 (RchPost w9 N es root)) := fun w9 h9 => by
    have hb9 : Below w.heap.size w w9 := HB2.out.trans (h9.mono HB2.out.size)
    have h := reachable_any w9 N ce w.heap.size E es root (by rw [HMM.out]; exact HE.out.below hb9) hb9.size HOK.out hN2 (by rw [HMM.out]; exact hM)
    rw [HMM.out] at h
    exact h
  have B8 : Below w2.heap.size w2 w2.drew := (Below.refl _ _).drew
  go_upto_region 5 with fail
  clear c0 c1
  go_cut [5, 6] (fun x5 x6 wx => ∃ (g3 g4 : Nat) (l3 : List Int) (D : List Bool), x5 = .slice (some ⟨g3, 0, none⟩) N N ∧ x6 = .slice (some ⟨g4, 0, none⟩) N N ∧ l3.length = N ∧ D.length = N ∧ Blk wx g3 3 (ints l3).toArray ∧ Blk wx g4 4 (bools D).toArray ∧ IsOut es root N l3 ∧ RIn D root ∧ (∀ e ∈ es, RCl D e) ∧ Below w2.heap.size w2 wx)
  case first =>
    go_region_held3 (fun w9 => w9.cell? ⟨bh, 0, none⟩ = some (.int .i64 N) ∧ w9.cell? ⟨bh, 1, none⟩ = some (.slice E M ce) ∧ Below w2.heap.size w2 w9)
      (first | exact H9.out _ B8 | exact H9.out _ X4 | exact H9.out _ X3)
      (first
        | (go_at_call 13; (with_reducible refine (HCPO.out _ B8).mono ?_); rintro e w3 ⟨g3, l3, rfl, hl3, kk, ho3, hg, hb⟩; have X3 : Below w2.heap.size w2 w3 := B8.trans (hb.mono B8.size); have K33 := Lib.hid kk; have L3 := Lib.hid (And.intro hl3 ho3); clear hl3 kk ho3 hg hb)
        | (go_at_call 25; (with_reducible refine (HCR.out _ X3).mono ?_); rintro e w4 ⟨g4, D, rfl, hDl, kD, hri, hrc, hb⟩; have X4 : Below w2.heap.size w2 w4 := X3.trans (hb.mono X3.size); have HD4 := Lib.hid (And.intro hDl (And.intro kD (And.intro hri hrc))); have K34 := Lib.hid (K33.out.below hb K33.out.lt); clear hDl kD hri hrc hb))
    all_goals
      go_wp2_with fail
      go_meet
      exact ⟨g3, g4, l3, D, rfl, rfl, L3.out.1, HD4.out.1, K34.out, HD4.out.2.1, L3.out.2, HD4.out.2.2.1, HD4.out.2.2.2, X4⟩
  case rest =>
  obtain ⟨g3, g4, l, D, rfl, rfl, hl3, hDl, K3, K4, ho3, hri, hrc, X4⟩ := hcut
  rename World => w4
  have HKL := Lib.hid (And.intro hl3 K3)
  have HKD := Lib.hid (And.intro hDl K4)
  have HUN : Hid (∀ v x, v < N → l[v]? = some x → (0 ≤ x ∧ x ≤ 1099511627776) ∧ (D[v]? = some false → x = 1099511627776)) := fun v x hv hx => by
    obtain ⟨U, hs, ho⟩ := ho3
    rw [← gi_at hx]
    refine ⟨ho.pre.ord v, fun hd => ?_⟩
    refine ho.outside (fun i => (inC_ord hs.nrm i).1) (fun e he => (HOK.out e he).cost.1) (fun i => D[i]? = some true) (fun i hi hr => hri i (by omega) hr) (fun e he hh t ht => ?_) (by rw [hd]; simp)
    have h1 := hrc e he (by simp [inD, hh]) t ht
    unfold inD at h1
    cases h2 : D[t.toNat]? with
    | none => rw [h2] at h1; simp at h1
    | some b => rw [h2] at h1; simp at h1; rw [h1]
  have HKH4 := Lib.hid (HKH2.out.below X4 HKH2.out.lt)
  have HB4 : Hid (Below w.heap.size w w4) := HB2.out.trans (X4.mono HB2.out.size)
  clear hl3 hDl K3 K4 ho3 hri hrc X4 B8 H9 HKH2 HB2
  have c0 : w4.cell? ⟨bh, 0, none⟩ = some (.int .i64 N) := HKH4.out.cell 0
  have hq1 : ((N : Int) != (N : Int)) = false := by simp
  go_wp2_with fail
  clear hq1 c0
  go_loop [7] (fun x => ∃ v : Nat, v ≤ N ∧ x = .int .i64 v) (fun x => N - (intOf x).toNat)
  case atStart => exact ⟨0, Nat.zero_le _, rfl⟩
  case round =>
    obtain ⟨v, hv, rfl⟩ := hrel
    have c0 : w4.cell? ⟨bh, 0, none⟩ = some (.int .i64 N) := HKH4.out.cell 0
    by_cases hlv : v < N
    case neg =>
      have hlvD : decide (v < N) = false := by simp [hlv]
      go_wp2_with fail
      go_ret
      exact ⟨rfl, HB4.out⟩
    case pos =>
      have hlvD : decide (v < N) = true := by simp [hlv]
      obtain ⟨x, hx⟩ : ∃ x, l[v]? = some x := ⟨_, List.getElem?_eq_getElem (by rw [HKL.out.1]; exact hlv)⟩
      obtain ⟨d, hd⟩ : ∃ d, D[v]? = some d := ⟨_, List.getElem?_eq_getElem (by rw [HKD.out.1]; exact hlv)⟩
      obtain ⟨⟨hx0, hx1⟩, hxd⟩ := HUN.out v x hlv hx
      have x0 := HKL.out.2.gint hx
      have d0 := HKD.out.2.bool_at hd
      have hD1 : decide (x < 0) = false := by simp; omega
      have hD2 : decide (1099511627776 < x) = false := by simp; omega
      cases d with
      | true =>
        clear hx hd hx0 hx1 hxd
        go_wp2_with fail
        go_round
        case rel => exact ⟨v + 1, by omega, by go_num⟩
        case measure => simp [intOf]; omega
      | false =>
        obtain rfl := hxd hd
        clear hx hd hx0 hx1 hxd
        go_wp2_with fail
        go_round
        case rel => exact ⟨v + 1, by omega, by go_num⟩
        case measure => simp [intOf]; omega
end Go.Proofs.Ytbalhkbpmahkgaa

namespace Go.Proofs.Ytbalhkbpmahkgaa
open Go.ChangeShapes Go.WideShapes Go.ChangeAt Go.RowKit

set_option maxRecDepth 100000 in
theorem lawOuLUnr_lifted (os : Os) (started : os.Started) (H : Type) (enc : TypeId × Value → H) :
    ReturnsInHanded {} Try.checked os 8 .any (Rows.outsideUnreachableSpec.pre6 enc Try.prog Try.f8 Rows.outsideUnreachableRow.domain false)
      (Rows.outsideUnreachableSpec.post enc Try.prog Try.f8 false true false false) := by
  refine returnsInHanded_of_change (C := Try.checked) Try.own started (by kernel_rfl) Try.func8
    (ChangeSpec.witness6 (enc := enc) (C := Try.checked) false ⟨#[], #[.agg #[.int .i64 0, .slice none 0 0], .int .i64 0], []⟩ 8 (by kernel_rfl) (by kernel_rfl) (by kernel_rfl) (by kernel_rfl)) ?_
  intro W base args ds gs before hval0 hW hcnd _
  have hval : ∀ (j : Nat) t v, Try.f8.params[j]? = some t → args[j]? = some v → Value.okWide Try.prog W .any base t v := hval0
  have hW' := hW
  obtain ⟨p, q, hA0, hV, rfl, hfz, hnd⟩ := hW
  have hA : DataW.TrodAll enc Try.prog W 0 (fun _ => true) true Try.f8.params.toList args.toList ds p := hA0
  rw [Try.params8] at hA hval
  obtain ⟨v0, v1, d0, d1, p0, p1, rfl, rfl, rfl, h0, h1⟩ := trodAll_two hA
  obtain ⟨rfl, rfl⟩ := trodVars_none hV
  obtain ⟨Z0, A0, c0, es0, rfl, hg0, hec0, hc0⟩ := open_hg (hval 0 24 v0 rfl rfl) h0
  obtain ⟨x1, rfl, _, _, wx1⟩ := open_int Try.underlying3 (hval 1 3 v1 rfl rfl) h1
  refine (lawUnr_any Z0 c0 W.heap.size A0 es0 x1 W hg0 (Nat.le_refl _)).mono fun e W' ⟨he, hb⟩ => ?_
  subst he
  exact ⟨_, rfl, law_post (by kernel_rfl) (by kernel_rfl) rfl (by kernel_rfl) hW' rfl rfl rfl hb⟩

theorem lawOuLUnr_holds : Rows.OutsideUnreachableSaid :=
  OpenClaim.holds_of_wide 8 Try.f8 rfl rfl rfl rfl rfl rfl rfl ⟨rfl, rfl, rfl, rfl, rfl⟩ rfl rfl rfl rfl rfl (by kernel_rfl) Try.func8 (by kernel_rfl)
    (of_decide_eq_true (by kernel_rfl)) (by unfold Func.isWrapper; first | (rw [if_pos (by decide +kernel)]; kernel_rfl) | (rw [if_neg (by decide +kernel)]; exact ⟨rfl, rfl⟩))
    (fun os started H enc _ => lawOuLUnr_lifted os started H enc)
#print axioms lawOuLUnr_holds
end Go.Proofs.Ytbalhkbpmahkgaa
