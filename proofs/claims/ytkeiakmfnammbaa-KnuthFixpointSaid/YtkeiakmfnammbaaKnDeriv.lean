/- Derivable: the set that it returns is closed under the hyperedges. -/
import Derived.Test.YtkeiakmfnammbaaKnAwake
namespace Go.Proofs.Ytkeiakmfnammbaa
open Go.RowKit

def inD (D : List Bool) (t : Int) : Bool := D[t.toNat]?.getD false
def allD (D : List Bool) (ts : List Int) : Bool := ts.all (inD D)
theorem allD_take {D : List Bool} {ts : List Int} {i : Nat} {t : Int} (h : ts[i]? = some t) : allD D (ts.take (i + 1)) = (allD D (ts.take i) && inD D t) := by
  rw [List.take_add_one, h]
  simp [allD]
theorem Blk.bool_at {w : World} {g : Nat} {t : TypeId} {l : List Bool} (h : Blk w g t (bools l).toArray) {k : Nat} {x : Bool} (hk : l[k]? = some x) : w.cell? ⟨g, k, none⟩ = some (.bool x) := by
  rw [h.cell]
  simp [bools, hk]
theorem Blk.bool_put {w : World} {g : Nat} {t : TypeId} {l : List Bool} (h : Blk w g t (bools l).toArray) (k : Nat) (x : Bool) : Blk (w.setCell ⟨g, k, none⟩ (.bool x)) g t (bools (l.set k x)).toArray := by
  have := h.set_ k (.bool x)
  have e : (bools (l.set k x)).toArray = (bools l).toArray.setIfInBounds k (.bool x) := by simp [bools, List.map_set]
  rw [e]
  exact this
set_option maxHeartbeats 1000000 in
theorem all_any (w : World) (A : Option Addr) (c B g n cg : Nat) (ts : List Int) (D : List Bool) (h : Reads w B 1 A ts.length (ints ts)) (hD : Blk w g 4 (bools D).toArray) (hn : D.length = n) (hts : ∀ t ∈ ts, 0 ≤ t ∧ t < n) (hT : ts.length ≤ 1000000) :
    Calls Try.prog 35 #[.slice A ts.length c, .slice (some ⟨g, 0, none⟩) n cg] w fun e w' => e = .returned (.bool (allD D ts)) ∧ Below w.heap.size w w' := by
  have H := Lib.hid h
  have HD := Lib.hid hD
  have HT := Lib.hid hts
  obtain ⟨r, hr⟩ : ∃ r, allD D ts = r := ⟨_, rfl⟩
  obtain ⟨T, hTT⟩ : ∃ T, ts.length = T := ⟨_, rfl⟩
  rw [hr]
  rw [hTT] at hT H ⊢
  have HR := Lib.hid hr
  have HTT := Lib.hid hTT
  have HN := Lib.hid hn
  clear h hD hts hr hTT hn
  go_enter Try.func35, Try.ntmps35
  go_wp2_with fail
  go_loop [5] (fun x => ∃ k : Nat, k ≤ T ∧ x = .int .i64 k ∧ Hid (allD D (ts.take k) = true)) (fun x => T - (intOf x).toNat)
  case atStart => exact ⟨0, Nat.zero_le _, rfl, rfl⟩
  case round =>
    obtain ⟨k, hk, rfl, HA⟩ := hrel
    by_cases hlt : k < T
    case neg =>
      have hltD : decide (k < T) = false := by simp [hlt]
      obtain rfl : T = k := by omega
      go_wp2_with fail
      go_ret
      have := HA.out
      rw [← HTT.out, List.take_length, HR.out] at this
      exact ⟨by rw [this]; rfl, Below.refl _ _⟩
    case pos =>
      have hltD : decide (k < T) = true := by simp [hlt]
      obtain ⟨b, off, hA, hb, p0⟩ := H.out.int_at hlt
      obtain ⟨t, hti⟩ : ∃ t, ts[k]? = some t := ⟨_, List.getElem?_eq_getElem (by have := HTT.out; omega)⟩
      rw [hti] at p0
      simp only [Option.getD_some] at p0
      obtain ⟨t0, t1⟩ := HT.out t (List.mem_of_getElem? hti)
      obtain ⟨j, rfl⟩ := Int.eq_ofNat_of_zero_le t0
      have hj : j < n := by omega
      obtain ⟨x, hx⟩ : ∃ x, D[j]? = some x := ⟨_, List.getElem?_eq_getElem (by have := HN.out; omega)⟩
      have d0 := HD.out.bool_at hx
      have hstep := allD_take (D := D) hti
      have hin : inD D (j : Int) = x := by simp [inD, hx]
      rw [hin] at hstep
      have HSTEP := Lib.hid hstep
      have HTI := Lib.hid hti
      subst hA
      clear hti hx hstep hin t0 t1
      cases x with
      | true =>
        go_wp2_with fail
        go_round
        case rel => exact ⟨k + 1, by omega, by go_num, by rw [HSTEP.out, HA.out]; rfl⟩
        case measure => simp [intOf]; omega
      | false =>
        go_wp2_with fail
        go_ret
        refine ⟨?_, Below.refl _ _⟩
        have h1 : allD D ts = false := by
          have h2 := HSTEP.out
          rw [HA.out] at h2
          cases h3 : allD D ts with
          | false => rfl
          | true =>
            have : allD D (ts.take (k + 1)) = true := by
              unfold allD at *
              rw [List.all_eq_true] at *
              exact fun u hu => h3 u (List.mem_of_mem_take hu)
            rw [this] at h2
            simp at h2
        rw [← HR.out, h1]
        rfl
def isF : Value → Bool
  | .bool false => true
  | _ => false
/-- How many nodes are out. -/
def outs (D : List Bool) : Nat := D.countP (! ·)
def bmeas (w : World) (g : Nat) : Nat := match w.heap[g]? with
  | some (.cells cs _ _) => cs.toList.countP isF
  | _ => 0
theorem bmeas_eq {w : World} {g : Nat} {t : TypeId} {D : List Bool} (h : Blk w g t (bools D).toArray) : bmeas w g = outs D := by
  unfold Blk at h
  unfold bmeas outs
  rw [h]
  simp only [bools, List.countP_map]
  congr 1
  funext b
  cases b <;> rfl
theorem outs_set : ∀ {D : List Bool} {n : Nat}, D[n]? = some false → outs (D.set n true) < outs D
  | [], _, h => by simp at h
  | b :: D, 0, h => by
    simp at h
    subst h
    simp [outs]
  | b :: D, n + 1, h => by
    simp at h
    have ih := outs_set h
    simp only [outs, List.set_cons_succ, List.countP_cons] at *
    omega
/-- Closed for the first k hyperedges. -/
def ClosK (es : List Ed) (D : List Bool) (k : Nat) : Prop := ∀ (j : Nat) (e : Ed), j < k → es[j]? = some e → allD D e.ts = true → inD D e.hd = true
theorem ClosK.next {es : List Ed} {D : List Bool} {k : Nat} {e : Ed} (h : ClosK es D k) (he : es[k]? = some e) (hv : allD D e.ts = true → inD D e.hd = true) : ClosK es D (k + 1) := fun j e' hj he' => by
  by_cases hjk : j = k
  · subst hjk
    rw [he] at he'
    injection he' with he'
    subst he'
    exact hv
  · exact h j e' (by omega) he'
def PassD (b : Bool) (es : List Ed) (D0 D : List Bool) (k : Nat) : Prop := (b = false → D = D0 ∧ ClosK es D k) ∧ (b = true → outs D < outs D0)
def PassF (b : Bool) (es : List Ed) (D : List Bool) : Prop := b = false → ClosK es D es.length
/-- What Derivable leaves: a closed set. -/
def DerPost (w : World) (N : Nat) (es : List Ed) (e : Ending) (w' : World) : Prop := ∃ (da : Nat) (D : List Bool), e = .returned (.slice (some ⟨da, 0, none⟩) N N) ∧ D.length = N ∧ Blk w' da 4 (bools D).toArray ∧ ClosK es D es.length ∧ w.heap.size ≤ da ∧ Below w.heap.size w w'
set_option maxRecDepth 100000 in
set_option maxHeartbeats 4000000 in
theorem derivable_any (w : World) (N ce B : Nat) (E : Option Addr) (es : List Ed) (hE : HG w B E es.length es) (hB : B ≤ w.heap.size) (hes : ∀ e ∈ es, e.Ok N) (hN : N ≤ 30) (hM : es.length ≤ 60) :
    Calls Try.prog 25 #[.agg #[.int .i64 N, .slice E es.length ce]] w (DerPost w N es) := by
  obtain ⟨M, hMM⟩ : ∃ M, es.length = M := ⟨_, rfl⟩
  rw [hMM] at hM ⊢
  have HE := Lib.hid (hE.more hB)
  rw [hMM] at HE
  have HES := Lib.hid hes
  have HMM := Lib.hid hMM
  clear hE hes hMM
  have hb := mk_bools N (by omega)
  go_enter Try.func25, Try.ntmps25
  go_wp2_with fail
  obtain ⟨w1, hw1⟩ : ∃ w1, (w.alloc (.cells #[.int .i64 N, .slice E M ce] 34)).alloc (.cells (bools (List.replicate N false)).toArray 4) = w1 := ⟨_, rfl⟩
  rw [hw1]
  obtain ⟨bh, hbh⟩ : ∃ bh, w.heap.size = bh := ⟨_, rfl⟩
  obtain ⟨da, hda⟩ : ∃ da, bh + 1 = da := ⟨_, rfl⟩
  have HKH1 : Hid (Blk w1 bh 34 #[.int .i64 N, .slice E M ce]) := by rw [← hw1]; exact (Blk.new' w _ _ hbh).alloc _
  have HKD1 : Hid (Blk w1 da 4 (bools (List.replicate N false)).toArray) := by rw [← hw1]; exact Blk.new' _ _ _ (by simp; omega)
  have HB1 : Hid (Below w.heap.size w w1) := by rw [← hw1]; exact ((Below.refl _ _).alloc (Nat.le_refl _) _).alloc (by simp) _
  have HLT : Hid (w.heap.size ≤ bh ∧ bh < da) := ⟨by omega, by omega⟩
  have HPF : Hid (PassF true es (List.replicate N false)) := fun h => by simp at h
  try rw [hbh]
  try rw [hda]
  clear hw1 hbh hda hb
  go_loopw [4] (fun x wr => ∃ (D : List Bool) (b : Bool), x = .bool b ∧ D.length = N ∧ Hid (Blk wr bh 34 #[.int .i64 N, .slice E M ce]) ∧ Hid (Blk wr da 4 (bools D).toArray) ∧ Hid (Below w.heap.size w wr) ∧ Hid (PassF b es D)) (fun x wr => 2 * bmeas wr da + (match x with | .bool true => 1 | _ => 0))
  case atStart => exact ⟨_, true, rfl, by simp, HKH1, HKD1, HB1, HPF⟩
  case round =>
    obtain ⟨D0, b, rfl, hDl0, HKH2, HKD2, HB2, HP2⟩ := hrel
    clear HKH1 HKD1 HB1 HPF
    cases b with
    | false =>
      go_wp2_with fail
      go_ret
      exact ⟨da, D0, rfl, hDl0, HKD2.out, HP2.out rfl, Nat.le_of_lt (Nat.lt_of_le_of_lt HLT.out.1 HLT.out.2), HB2.out⟩
    | true =>
      have hme : bmeas wr da = outs D0 := bmeas_eq HKD2.out
      have HME := Lib.hid hme
      have HPK : Hid (PassD false es D0 D0 0) := ⟨fun _ => ⟨rfl, fun j e hj => absurd hj (Nat.not_lt_zero _)⟩, fun h => by simp at h⟩
      clear hme HP2
      go_wp2_with fail
      rename World => w5
      go_loopw [4, 5] (fun x y wr => ∃ (k : Nat) (D : List Bool) (b : Bool), k ≤ M ∧ y = .int .i64 k ∧ x = .bool b ∧ D.length = N ∧ Hid (Blk wr bh 34 #[.int .i64 N, .slice E M ce]) ∧ Hid (Blk wr da 4 (bools D).toArray) ∧ Hid (Below w.heap.size w wr) ∧ Hid (PassD b es D0 D k)) (fun _ y _ => M - (intOf y).toNat)
      case atStart => exact ⟨0, D0, false, Nat.zero_le _, rfl, rfl, hDl0, HKH2, HKD2, HB2, HPK⟩
      case round =>
        obtain ⟨k, D, b, hk, rfl, rfl, hDl, HKH3, HKD3, HB3, HP3⟩ := hrel
        clear HKH2 HKD2 HB2 HPK
        have c1 : wr.cell? ⟨bh, 1, none⟩ = some (.slice E M ce) := HKH3.out.cell 1
        by_cases hlt : k < M
        case neg =>
          have hltD : decide (k < M) = false := by simp [hlt]
          obtain rfl : M = k := by omega
          clear hlt hk
          go_wp2_with fail
          go_roundw
          case rel => exact ⟨D, b, rfl, hDl, HKH3, HKD3, HB3, fun h => by rw [HMM.out]; exact (HP3.out.1 h).2⟩
          case measure =>
            have e1 : bmeas wr da = outs D := bmeas_eq HKD3.out
            rw [HME.out, e1]
            cases b with
            | true => have := HP3.out.2 rfl; simp only; omega
            | false => have := (HP3.out.1 rfl).1; subst this; simp
        case pos =>
          have hltD : decide (k < M) = true := by simp [hlt]
          obtain ⟨b', off, e, hE', hb', he, p0, p1, p2, p3, p4, hR⟩ := (HE.out.below HB3.out).at_ hlt
          subst hE'
          have HRd := Lib.hid hR
          have HEk := Lib.hid he
          have heok := HES.out e (List.mem_of_getElem? he)
          obtain ⟨n, hn⟩ := Int.eq_ofNat_of_zero_le heok.hd.1
          have hnN : n < N := by have := heok.hd.2; omega
          have hbl : b' < wr.heap.size := by have := HB3.out.size; omega
          have HOKE := Lib.hid heok
          obtain ⟨dn, hdn⟩ : ∃ dn, D[n]? = some dn := ⟨_, List.getElem?_eq_getElem (by omega)⟩
          have d0 := HKD3.out.bool_at hdn
          have hdl := HKD3.out.lt
          have hin : inD D e.hd = dn := by rw [hn]; simp [inD, hdn]
          have HIN := Lib.hid hin
          have HDN := Lib.hid hdn
          clear hR he heok hin hdn
          rw [hn] at p0
          have HN := Lib.hid hn
          clear hn
          go_upto_region 9 with fail
          obtain ⟨w6, hw6⟩ : ∃ w6, wr.alloc (.cells #[.int .i64 (n : Nat), .slice e.A e.ts.length e.c, .int .i64 e.cost, .int .i64 e.l0, .int .i64 e.l1] 43) = w6 := ⟨_, rfl⟩
          obtain ⟨be, hbe⟩ : ∃ be, wr.heap.size = be := ⟨_, rfl⟩
          have HKE : Hid (Blk w6 be 43 #[.int .i64 (n : Nat), .slice e.A e.ts.length e.c, .int .i64 e.cost, .int .i64 e.l0, .int .i64 e.l1]) := by rw [← hw6, ← hbe]; exact Blk.new' wr _ _ rfl
          have hxb : Below wr.heap.size wr w6 := by rw [← hw6]; exact (Below.refl _ _).alloc (Nat.le_refl _) _
          have HKH5 := Lib.hid (HKH3.out.below hxb HKH3.out.lt)
          have HKD5 := Lib.hid (HKD3.out.below hxb HKD3.out.lt)
          have HB5 : Hid (Below w.heap.size w w6) := HB3.out.trans (hxb.mono HB3.out.size)
          have HRd5 := Lib.hid (HRd.out.below (hxb.mono HB3.out.size))
          rw [hw6, hbe]
          clear hw6 hbe hxb HKH3 HKD3 HB3 HRd p0 p1 p2 p3 p4 hbl hb' c1 d0 hdl
          have k0 : w6.cell? ⟨be, 0, none⟩ = some (.int .i64 (n : Nat)) := HKE.out.cell 0
          have k1 : w6.cell? ⟨be, 1, none⟩ = some (.slice e.A e.ts.length e.c) := HKE.out.cell 1
          have d0 := HKD5.out.bool_at HDN.out
          cases dn with
          | true =>
            go_wp2_with fail
            go_roundw
            case rel => exact ⟨k + 1, D, b, by omega, by go_num, rfl, hDl, HKH5, HKD5, HB5, ⟨fun h => ⟨(HP3.out.1 h).1, (HP3.out.1 h).2.next HEk.out (fun _ => HIN.out)⟩, HP3.out.2⟩⟩
            case measure => simp [intOf]; omega
          | false =>
            go_wp2_with fail
            have HTF : Hid (e.ts.length ≤ 1000000) := by have := HOKE.out.few; show e.ts.length ≤ 1000000; omega
            refine (all_any w6 e.A e.c w.heap.size da N N e.ts D HRd5.out HKD5.out hDl HOKE.out.ts HTF.out).mono ?_
            rintro e9 w9 ⟨rfl, hb9⟩
            obtain ⟨r, hr⟩ : ∃ r, allD D e.ts = r := ⟨_, rfl⟩
            rw [hr]
            have HR := Lib.hid hr
            have HKH9 := Lib.hid (HKH5.out.below hb9 HKH5.out.lt)
            have HKD9 := Lib.hid (HKD5.out.below hb9 HKD5.out.lt)
            have HB9 : Hid (Below w.heap.size w w9) := HB5.out.trans (hb9.mono HB5.out.size)
            have k0' : w9.cell? ⟨be, 0, none⟩ = some (.int .i64 (n : Nat)) := (HKE.out.below hb9 HKE.out.lt).cell 0
            have d0' := HKD9.out.bool_at HDN.out
            have z0 := HKD9.out.frozen n
            clear hr hb9 k0 k1 d0 HKH5 HKD5 HB5
            cases r with
            | false =>
              go_wp2_with fail
              go_roundw
              case rel => exact ⟨k + 1, D, b, by omega, by go_num, rfl, hDl, HKH9, HKD9, HB9, ⟨fun h => ⟨(HP3.out.1 h).1, (HP3.out.1 h).2.next HEk.out (fun h => by rw [HR.out] at h; simp at h)⟩, HP3.out.2⟩⟩
              case measure => simp [intOf]; omega
            | true =>
              have HOS := Lib.hid (outs_set HDN.out)
              go_wp2_with fail
              go_roundw
              case rel =>
                have n0 := HLT.out
                refine ⟨k + 1, D.set n true, true, by omega, by go_num, rfl, by rw [List.length_set]; exact hDl, HKH9.out.far (p := ⟨da, n, none⟩) (by show bh ≠ da; omega) _, HKD9.out.bool_put n true, HB9.out.setCell (p := ⟨da, n, none⟩) (by show w.heap.size ≤ da; omega) _, ⟨fun h => by simp at h, fun _ => ?_⟩⟩
                have h3 := HOS.out
                cases b with
                | true => have := HP3.out.2 rfl; omega
                | false => rw [← (HP3.out.1 rfl).1]; exact h3
              case measure => simp [intOf]; omega
end Go.Proofs.Ytkeiakmfnammbaa
