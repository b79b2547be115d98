/- Valid grammars: what the reference's Valid finds true. -/
import Derived.Test.YthakcefgbggkcaaDoorCMa
namespace Go.Proofs.YthakcefgbggkcaaDoor
open Go.RowKit

/-- What a valid grammar is. -/
structure NormOk (T N st : Int) (R : List Rl) : Prop where
  hT : 0 ≤ T ∧ T ≤ 120
  hN : 1 ≤ N ∧ N ≤ 1000
  hs : 0 ≤ st ∧ st < N
  hR : R.length ≤ 600
  rl : ∀ r ∈ R, r.Ok N.toNat
set_option maxRecDepth 100000 in
set_option maxHeartbeats 8000000 in
theorem valid24_any (w : World) (T N st : Int) (nR rc B : Nat) (RA : Option Addr) (R : List Rl) (hR : Reads w B 6 RA nR (rls R)) (hB : B ≤ w.heap.size) (hnR : nR ≤ 1000000000000) :
    Calls Tryd.prog 31 #[.agg #[.int .i64 T, .int .i64 N, .int .i64 st, .slice RA nR rc]] w (RetIf (NormOk T N st R) w) := by
  obtain ⟨P, hP⟩ : ∃ P, NormOk T N st R = P := ⟨_, rfl⟩
  rw [hP]
  obtain ⟨W, hW⟩ : ∃ W, w.alloc (.cells #[.int .i64 T, .int .i64 N, .int .i64 st, .slice RA nR rc] 24) = W := ⟨_, rfl⟩
  obtain ⟨bn, hbn⟩ : ∃ bn, w.heap.size = bn := ⟨_, rfl⟩
  have K1 : Blk W bn 24 #[.int .i64 T, .int .i64 N, .int .i64 st, .slice RA nR rc] := by rw [← hW]; exact Blk.new' _ _ _ hbn
  have hBW : Below bn w W := by rw [← hW]; exact (Below.refl _ _).alloc (by omega) _
  have n0 := K1.cell 0
  have n1 := K1.cell 1
  have n2 := K1.cell 2
  have n3 := K1.cell 3
  simp at n0 n1 n2 n3
  have HK := Lib.hid K1
  have HBW := Lib.hid hBW
  have HW := Lib.hid hW
  have HBN := Lib.hid hbn
  have HLN := Lib.hid hR.len_rls
  have HR := Lib.hid (hR.more (show B ≤ bn by omega))
  have HP := Lib.hid hP
  have HF : Hid (∀ w', Below bn w w' → RetIf P w (.returned (.bool false)) w') := fun w' h => ⟨false, rfl, fun e => Bool.noConfusion e, by rw [HBN.out]; exact h⟩
  clear hW hBW K1 hR hB hP
  go_enter Tryd.func31, Tryd.ntmps31
  go_upto_region 1 with fail
  try rw [hbn]
  rw [HW.out]
  by_cases a0 : T < 0
  · have d0 : decide (T < 0) = true := by simp; omega
    go_wp2_with fail
    go_ret
    exact HF.out _ HBW.out
  have d0 : decide (T < 0) = false := by simp; omega
  by_cases a1 : 120 < T
  · have d1 : decide ((120 : Int) < T) = true := by simp; omega
    go_wp2_with fail
    go_ret
    exact HF.out _ HBW.out
  have d1 : decide ((120 : Int) < T) = false := by simp; omega
  by_cases a2 : N < 1
  · have d2 : decide (N < 1) = true := by simp; omega
    go_wp2_with fail
    go_ret
    exact HF.out _ HBW.out
  have d2 : decide (N < 1) = false := by simp; omega
  by_cases a3 : 1000 < N
  · have d3 : decide ((1000 : Int) < N) = true := by simp; omega
    go_wp2_with fail
    go_ret
    exact HF.out _ HBW.out
  have d3 : decide ((1000 : Int) < N) = false := by simp; omega
  by_cases a4 : st < 0
  · have d4 : decide (st < 0) = true := by simp; omega
    go_wp2_with fail
    go_ret
    exact HF.out _ HBW.out
  have d4 : decide (st < 0) = false := by simp; omega
  by_cases a5 : N ≤ st
  · have d5 : decide (N ≤ st) = true := by simp; omega
    go_wp2_with fail
    go_ret
    exact HF.out _ HBW.out
  have d5 : decide (N ≤ st) = false := by simp; omega
  by_cases a6 : (600 : Int) < (nR : Int)
  · have d6 : decide ((600 : Int) < (nR : Int)) = true := by simp; omega
    go_wp2_with fail
    go_ret
    exact HF.out _ HBW.out
  have d6 : decide ((600 : Int) < (nR : Int)) = false := by simp; omega
  have HHD : Hid ((0 ≤ T ∧ T ≤ 120) ∧ (1 ≤ N ∧ N ≤ 1000) ∧ (0 ≤ st ∧ st < N) ∧ nR ≤ 600) := ⟨by omega, by omega, by omega, by omega⟩
  go_upto_region 3 with fail
  go_wp2_with fail
  clear n0 n1 n2 n3 d0 d1 d2 d3 d4 d5 d6 a0 a1 a2 a3 a4 a5 a6
  have HA0 : Hid (∀ j r, j < 0 → R[j]? = some r → r.Ok N.toNat) := fun _ _ h => by omega
  go_loopw [3] (fun q wr => ∃ i : Nat, i ≤ nR ∧ q = .int .i64 i ∧ Hid (Blk wr bn 24 #[.int .i64 T, .int .i64 N, .int .i64 st, .slice RA nR rc]) ∧ Hid (Below bn w wr) ∧ Hid (∀ j r, j < i → R[j]? = some r → r.Ok N.toNat)) (fun q _ => nR - (intOf q).toNat)
  case atStart => exact ⟨0, Nat.zero_le _, rfl, HK, HBW, HA0⟩
  case round =>
    obtain ⟨i, hi, rfl, HKr, HBr, HA⟩ := hrel
    clear HK HBW HA0
    have n3 := HKr.out.cell 3
    simp at n3
    have hu := HHD.out.2.2.2
    have ui : IntKind.i64.wrap ((i : Int) + 1) = (i : Int) + 1 := IntWalk.i64_in _ (by omega)
    by_cases hlt : i < nR
    case neg => as_aux_lemma =>
      have hltD : decide (i < nR) = false := by simp [hlt]
      have hok : NormOk T N st R := ⟨HHD.out.1, HHD.out.2.1, HHD.out.2.2.1, by rw [HLN.out]; exact hu, fun r hr => by
        obtain ⟨j, hj⟩ := List.getElem?_of_mem hr
        exact HA.out j r (by have := (List.getElem?_eq_some_iff.1 hj).1; rw [HLN.out] at this; omega) hj⟩
      have HPP : Hid P := by rw [← HP.out]; exact hok
      clear hok hu hlt
      go_wp2_with fail
      go_ret
      exact ⟨true, rfl, fun _ => HPP.out, by rw [HBN.out]; exact HBr.out⟩
    case pos =>
      have hltD : decide (i < nR) = true := by simp [hlt]
      obtain ⟨br, offr, r, hRA, hbr, hr, p0, p1, p2, p3, p4, p5⟩ := (HR.out.below HBr.out).rl_at hlt
      obtain ⟨rk, rhd, ra, rb, rp, ro⟩ := r
      simp only at p0 p1 p2 p3 p4 p5
      rw [hRA] at HKr n3
      have HRR := Lib.hid hr
      have HNX : Hid ((⟨rk, rhd, ra, rb, rp, ro⟩ : Rl).Ok N.toNat → ∀ j r, j < i + 1 → R[j]? = some r → r.Ok N.toNat) := fun hk j r hj hr' => by
        by_cases hji : j = i
        · subst hji
          rw [HRR.out] at hr'
          injection hr' with hr'
          rw [← hr']
          exact hk
        · exact HA.out j r (by omega) hr'
      have HNN : Hid (1 ≤ N) := HHD.out.2.1.1
      go_upto_region 7 with fail
      obtain ⟨w1, hw1⟩ : ∃ w1, wr.alloc (.cells #[.int .i64 rk, .int .i64 rhd, .int .i64 ra, .int .i64 rb, .int .i64 rp, .int .i64 ro] 65) = w1 := ⟨_, rfl⟩
      obtain ⟨b4, hb4⟩ : ∃ b4, wr.heap.size = b4 := ⟨_, rfl⟩
      have hbx : Below wr.heap.size wr w1 := by rw [← hw1]; exact (Below.refl _ _).alloc (Nat.le_refl _) _
      have K4 : Blk w1 b4 65 #[.int .i64 rk, .int .i64 rhd, .int .i64 ra, .int .i64 rb, .int .i64 rp, .int .i64 ro] := by rw [← hw1]; exact Blk.new' _ _ _ hb4
      have HK1 := Lib.hid (HKr.out.below hbx HKr.out.lt)
      have HB1 : Hid (Below bn w w1) := HBr.out.trans (hbx.mono (by have := HKr.out.lt; omega))
      rw [hw1, hb4]
      clear hw1 hb4 hbx p0 p1 p2 p3 p4 p5 n3 HKr HBr hr
      have q0 := K4.cell 0
      have q1 := K4.cell 1
      have q2 := K4.cell 2
      have q3 := K4.cell 3
      have q4 := K4.cell 4
      have q5 := K4.cell 5
      have m0 := HK1.out.cell 0
      have m1 := HK1.out.cell 1
      simp at q0 q1 q2 q3 q4 q5 m0 m1
      clear K4
      by_cases a0 : rhd < 0
      · have d0 : decide (rhd < 0) = true := by simp; omega
        go_wp2_with fail
        go_ret
        exact HF.out _ HB1.out
      have d0 : decide (rhd < 0) = false := by simp; omega
      by_cases a1 : N ≤ rhd
      · have d1 : decide (N ≤ rhd) = true := by simp; omega
        go_wp2_with fail
        go_ret
        exact HF.out _ HB1.out
      have d1 : decide (N ≤ rhd) = false := by simp; omega
      by_cases a2 : rp < 0
      · have d2 : decide (rp < 0) = true := by simp; omega
        go_wp2_with fail
        go_ret
        exact HF.out _ HB1.out
      have d2 : decide (rp < 0) = false := by simp; omega
      by_cases a3 : 1000 < rp
      · have d3 : decide ((1000 : Int) < rp) = true := by simp; omega
        go_wp2_with fail
        go_ret
        exact HF.out _ HB1.out
      have d3 : decide ((1000 : Int) < rp) = false := by simp; omega
      by_cases a4 : ro < -1
      · have d4 : decide (ro < -1) = true := by simp; omega
        go_wp2_with fail
        go_ret
        exact HF.out _ HB1.out
      have d4 : decide (ro < -1) = false := by simp; omega
      go_upto_region 10 with fail
      clear d0 d1 d2 d3 d4
      by_cases hk1 : rk = 1
      · subst hk1
        by_cases b0 : ¬ ra = 0
        · have e0 : (ra == 0) = false := by simp; omega
          go_wp2_with fail
          go_ret
          exact HF.out _ HB1.out
        have e0 : (ra == 0) = true := by simp; omega
        by_cases b1 : ¬ rb = 0
        · have e1 : (rb == 0) = false := by simp; omega
          go_wp2_with fail
          go_ret
          exact HF.out _ HB1.out
        have e1 : (rb == 0) = true := by simp; omega
        have HOKN := Lib.hid (HNX.out ⟨⟨by simp only; omega, by simp only; have := HNN.out; omega⟩, ⟨by simp only; omega, by simp only; omega⟩, .inl (.inl rfl)⟩)
        skip
        go_wp2_with fail
        go_roundw
        case rel => exact ⟨i + 1, by omega, by go_num, (by rw [hRA]; exact HK1), HB1, HOKN⟩
        case measure => simp [intOf]; omega
      have c1 : (rk == 1) = false := by simp; omega
      by_cases hk2 : rk = 2
      · subst hk2
        by_cases b0 : ¬ 0 ≤ ra
        · have e0 : decide (0 ≤ ra) = false := by simp; omega
          go_wp2_with fail
          go_ret
          exact HF.out _ HB1.out
        have e0 : decide (0 ≤ ra) = true := by simp; omega
        by_cases b1 : ¬ ra < T
        · have e1 : decide (ra < T) = false := by simp; omega
          go_wp2_with fail
          go_ret
          exact HF.out _ HB1.out
        have e1 : decide (ra < T) = true := by simp; omega
        by_cases b2 : ¬ rb = 0
        · have e2 : (rb == 0) = false := by simp; omega
          go_wp2_with fail
          go_ret
          exact HF.out _ HB1.out
        have e2 : (rb == 0) = true := by simp; omega
        have HOKN := Lib.hid (HNX.out ⟨⟨by simp only; omega, by simp only; have := HNN.out; omega⟩, ⟨by simp only; omega, by simp only; omega⟩, .inl (.inr rfl)⟩)
        skip
        go_wp2_with fail
        go_roundw
        case rel => exact ⟨i + 1, by omega, by go_num, (by rw [hRA]; exact HK1), HB1, HOKN⟩
        case measure => simp [intOf]; omega
      have c2 : (rk == 2) = false := by simp; omega
      by_cases hk3 : rk = 3
      · subst hk3
        by_cases b0 : ¬ 0 ≤ ra
        · have e0 : decide (0 ≤ ra) = false := by simp; omega
          go_wp2_with fail
          go_ret
          exact HF.out _ HB1.out
        have e0 : decide (0 ≤ ra) = true := by simp; omega
        by_cases b1 : ¬ ra < N
        · have e1 : decide (ra < N) = false := by simp; omega
          go_wp2_with fail
          go_ret
          exact HF.out _ HB1.out
        have e1 : decide (ra < N) = true := by simp; omega
        by_cases b2 : ¬ rb = 0
        · have e2 : (rb == 0) = false := by simp; omega
          go_wp2_with fail
          go_ret
          exact HF.out _ HB1.out
        have e2 : (rb == 0) = true := by simp; omega
        have HOKN := Lib.hid (HNX.out ⟨⟨by simp only; omega, by simp only; have := HNN.out; omega⟩, ⟨by simp only; omega, by simp only; omega⟩, .inr (.inl ⟨rfl, by simp only; omega, by simp only; have := HNN.out; omega⟩)⟩)
        skip
        go_wp2_with fail
        go_roundw
        case rel => exact ⟨i + 1, by omega, by go_num, (by rw [hRA]; exact HK1), HB1, HOKN⟩
        case measure => simp [intOf]; omega
      have c3 : (rk == 3) = false := by simp; omega
      by_cases hk4 : rk = 4
      · subst hk4
        by_cases b0 : ¬ 0 ≤ ra
        · have e0 : decide (0 ≤ ra) = false := by simp; omega
          go_wp2_with fail
          go_ret
          exact HF.out _ HB1.out
        have e0 : decide (0 ≤ ra) = true := by simp; omega
        by_cases b1 : ¬ ra < N
        · have e1 : decide (ra < N) = false := by simp; omega
          go_wp2_with fail
          go_ret
          exact HF.out _ HB1.out
        have e1 : decide (ra < N) = true := by simp; omega
        by_cases b2 : ¬ 0 ≤ rb
        · have e2 : decide (0 ≤ rb) = false := by simp; omega
          go_wp2_with fail
          go_ret
          exact HF.out _ HB1.out
        have e2 : decide (0 ≤ rb) = true := by simp; omega
        by_cases b3 : ¬ rb < N
        · have e3 : decide (rb < N) = false := by simp; omega
          go_wp2_with fail
          go_ret
          exact HF.out _ HB1.out
        have e3 : decide (rb < N) = true := by simp; omega
        have HOKN := Lib.hid (HNX.out ⟨⟨by simp only; omega, by simp only; have := HNN.out; omega⟩, ⟨by simp only; omega, by simp only; omega⟩, .inr (.inr ⟨rfl, ⟨by simp only; omega, by simp only; have := HNN.out; omega⟩, ⟨by simp only; omega, by simp only; have := HNN.out; omega⟩⟩)⟩)
        skip
        go_wp2_with fail
        go_roundw
        case rel => exact ⟨i + 1, by omega, by go_num, (by rw [hRA]; exact HK1), HB1, HOKN⟩
        case measure => simp [intOf]; omega
      have c4 : (rk == 4) = false := by simp; omega
      go_wp2_with fail
      go_ret
      exact HF.out _ HB1.out
end Go.Proofs.YthakcefgbggkcaaDoor
