/- same: an index represents its text. The law LineindexPositions. -/
import Derived.Test.YthbcnpoldoklbaaLinLines
namespace Go.Proofs.Ythbcnpoldoklbaa
open Go.RowKit

theorem ln_in {s : ByteArray} {k : Nat} (h : k ≤ (starts s).length) : lnT s k = lnText s k ∧ lnE s k = 0 := by
  have hok : lnOk s k := ⟨by omega, by omega⟩
  unfold lnT lnE lnText
  rw [if_pos hok, if_pos hok, Int.toNat_natCast]
  exact ⟨rfl, rfl⟩
theorem linesL_at {s : ByteArray} {k : Nat} (h : k ≤ (starts s).length) : (linesL s)[k]? = some (lnText s k) := by
  unfold linesL
  rw [List.getElem?_map, List.getElem?_range (by omega)]
  rfl
theorem Reads.str_at {w : World} {B n : Nat} {A : Option Addr} {l : List ByteArray} (h : Reads w B 1 A n (strs l)) {k : Nat} {x : ByteArray} (hk : l[k]? = some x) : ∃ b off, A = some ⟨b, off, none⟩ ∧ b < B ∧ w.cell? ⟨b, off + k, none⟩ = some (.string x) := by
  have hlt : k < n := by
    have h1 := h.1
    have h2 := (List.getElem?_eq_some_iff.1 hk).1
    simp [strs] at h1
    omega
  obtain ⟨b, off, e, hb, hc⟩ := h.2 (by omega)
  exact ⟨b, off, e, hb, hc k _ (by simp [strs, hk])⟩
theorem ba_beq (x : ByteArray) : (x.toList == x.toList) = true := by simp

set_option maxRecDepth 100000 in
set_option maxHeartbeats 2000000 in
theorem same_any (s : ByteArray) (A : Option Addr) (n c B : Nat) (w : World) (hl : Reads w B 1 A n (nats (starts s))) (hB : B ≤ w.heap.size) (hn : n ≤ 1048576) (hs : s.size ≤ 1048576) :
    Calls Try.prog 14 #[.agg #[.string s, .slice A n c], .string s] w fun e w' => e = .returned (.bool true) ∧ Below w.heap.size w w' := by
  have hln := hl.nats_len
  have K := Blk.new' w 25 #[.string s, .slice A n c] rfl
  have hb0 : Below w.heap.size w (w.alloc (.cells #[.string s, .slice A n c] 25)) := (Below.refl _ _).alloc (Nat.le_refl _) _
  have HR := Lib.hid (hl.alloc hB (.cells #[.string s, .slice A n c] 25))
  have HLEN := Lib.hid hln
  clear hl hln
  go_enter Try.func14, Try.ntmps14
  go_wp2_with fail
  refine (refLines_any s _ (by omega)).mono ?_
  rintro e w1 ⟨A1, c1, rfl, R1, hb1⟩
  rw [linesL_length, HLEN.out] at R1 ⊢
  have hs1 := hb1.size
  simp only [World.size_alloc] at hs1
  have K1 := K.below hb1 (by simp)
  have HR1 := Lib.hid (HR.out.below (hb1.mono (by simp; omega)))
  have hbb1 : Below w.heap.size w w1 := hb0.trans (hb1.mono (by simp))
  have HS1 := Lib.hid R1
  have a0 := K1.cell 0
  have a1 := K1.cell 1
  simp at a0 a1
  clear R1 hb1
  go_wp2_with fail
  refine (lines_any s A n c _ (by omega)).mono ?_
  rintro e w2 ⟨rfl, hb2⟩
  have K2 := K1.below hb2 (by omega)
  have hbb2 : Below w.heap.size w w2 := hbb1.trans (hb2.mono (by omega))
  have HR2 := Lib.hid (HR1.out.below (hb2.mono (by omega)))
  have HS2 := Lib.hid (HS1.out.below hb2)
  have hs2 := hb2.size
  clear hb2 a0 a1
  have q0 : (((n : Int) + 1) != ((n + 1 : Nat) : Int)) = false := by simp
  go_wp2_with fail
  go_loopw [6] (fun a wr => ∃ k : Nat, k ≤ n + 1 ∧ a = .int .i64 k ∧ Blk wr w.heap.size 25 #[.string s, .slice A n c] ∧ Hid (Reads wr B 1 A n (nats (starts s))) ∧ Hid (Reads wr w1.heap.size 1 A1 (n + 1) (strs (linesL s))) ∧ Below w.heap.size w wr ∧ w1.heap.size ≤ wr.heap.size) (fun a _ => n + 1 - (intOf a).toNat)
  case atStart => exact ⟨0, by omega, rfl, K2, HR2.out, HS2.out, hbb2, hs2⟩
  case round =>
    obtain ⟨k, hk, rfl, B2, HRr, HSr, hb, hsr⟩ := hrel
    have hsz := hb.size
    have hlt2 := B2.lt
    have b0 := B2.cell 0
    have b1 := B2.cell 1
    simp at b0 b1
    by_cases hlt : k < n + 1
    · have hltI : (k : Int) < ((n + 1 : Nat) : Int) := by omega
      have hkn : k ≤ (starts s).length := by rw [HLEN.out]; omega
      have HLN := Lib.hid (ln_in hkn)
      have HLA := Lib.hid (linesL_at hkn)
      clear hkn
      go_wp2_with fail
      refine (line_any s A n c B k _ HRr.out (by omega) (by omega) (by omega)).mono ?_
      rw [HLN.out.1, HLN.out.2]
      rintro e w3 ⟨rfl, hb3⟩
      obtain ⟨bb, off, rfl, hbb, hc⟩ := (HSr.out.below (hb3.mono hsr)).str_at HLA.out
      have T := ba_beq (lnText s k)
      have hb' : Below w.heap.size w w3 := hb.trans (hb3.mono hsz)
      have B3 := B2.below hb3 (by omega)
      have R3 := Lib.hid (HRr.out.below (hb3.mono (by omega)))
      have S3 := Lib.hid (HSr.out.below (hb3.mono hsr))
      have hs3 := hb3.size
      generalize lnText s k = x at *
      clear b0 b1
      go_wp2_with fail
      go_roundw
      case rel => exact ⟨k + 1, by omega, by go_num, B3, R3.out, S3.out, hb', by omega⟩
      case measure => simp [intOf]; omega
    · have hltI : ¬ (k : Int) < ((n + 1 : Nat) : Int) := by omega
      clear HSr
      obtain ⟨wo, hwo⟩ : ∃ wo : World, wo = wr := ⟨_, rfl⟩
      subst hwo
      go_wp2_with fail
      go_loopw [9] (fun a wr => ∃ j : Nat, j ≤ s.size + 1 ∧ a = .int .i64 j ∧ Blk wr w.heap.size 25 #[.string s, .slice A n c] ∧ Hid (Reads wr B 1 A n (nats (starts s))) ∧ Below w.heap.size w wr) (fun a _ => s.size + 1 - (intOf a).toNat)
      case atStart => exact ⟨0, by omega, rfl, B2, HRr.out, hb⟩
      case round =>
        obtain ⟨j, hj, rfl, B5, R5, hb5⟩ := hrel
        have hsz5 := hb5.size
        have hlt5 := B5.lt
        have b0 := B5.cell 0
        have b1 := B5.cell 1
        simp at b0 b1
        by_cases hlj : j ≤ s.size
        · have hljI : decide ((j : Int) ≤ s.size) = true := by simp; omega
          obtain ⟨pl, hpl⟩ : ∃ x, posL s j = x := ⟨_, rfl⟩
          obtain ⟨pc, hpc⟩ : ∃ x, posC s j = x := ⟨_, rfl⟩
          have HP := Lib.hid (show posL s j = pl ∧ posC s j = pc ∧ posE s j = 0 from ⟨hpl, hpc, (pos_in hlj).2.2⟩)
          clear hpl hpc
          go_wp2_with fail
          refine (position_any s A n c B j _ R5.out (by omega) (by omega) (by omega)).mono ?_
          rw [HP.out.1, HP.out.2.1, HP.out.2.2]
          rintro e w6 ⟨rfl, hb6⟩
          have B6 := (B5.below hb6 (by omega)).alloc (.cells #[.int .i64 pl, .int .i64 pc] 28)
          have P6 := Blk.new' w6 28 #[.int .i64 pl, .int .i64 pc] rfl
          have hs6 := hb6.size
          have R6 := Lib.hid ((R5.out.below (hb6.mono (by omega))).alloc (by omega) (.cells #[.int .i64 pl, .int .i64 pc] 28))
          have hbb6 : Below w.heap.size w (w6.alloc (.cells #[.int .i64 pl, .int .i64 pc] 28)) := (hb5.trans (hb6.mono hsz5)).alloc (by omega) _
          clear b0 b1
          go_wp2_with fail
          refine (refPosition_any s j _ (by omega)).mono ?_
          rw [HP.out.1, HP.out.2.1, HP.out.2.2]
          rintro e w7 ⟨rfl, hb7⟩
          have B7 := (B6.below hb7 (by simp; omega)).alloc (.cells #[.int .i64 pl, .int .i64 pc] 28)
          have P7 := (P6.below hb7 (by simp)).alloc (.cells #[.int .i64 pl, .int .i64 pc] 28)
          have hs7 := hb7.size
          simp only [World.size_alloc] at hs7
          have R7 := Lib.hid ((R6.out.below (hb7.mono (by simp; omega))).alloc (by omega) (.cells #[.int .i64 pl, .int .i64 pc] 28))
          have hbb7 : Below w.heap.size w (w7.alloc (.cells #[.int .i64 pl, .int .i64 pc] 28)) := (hbb6.trans (hb7.mono (by simp; omega))).alloc (by omega) _
          have p0 := P7.cell 0
          have p1 := P7.cell 1
          simp at p0 p1
          go_wp2_with fail
          go_roundw
          case rel => exact ⟨j + 1, by omega, by go_num, B7, R7.out, hbb7⟩
          case measure => simp [intOf]; omega
        · have hljI : decide ((j : Int) ≤ s.size) = false := by simp; omega
          have v : IntKind.i64.wrap ((s.size : Int) + 1) = (s.size : Int) + 1 := IntWalk.i64_in _ (by omega)
          have hno : ¬ (0 ≤ (s.size : Int) + 1 ∧ (s.size : Int) + 1 ≤ s.size) := by omega
          have HP := Lib.hid (show posL s ((s.size : Int) + 1) = 0 ∧ posC s ((s.size : Int) + 1) = 0 ∧ posE s ((s.size : Int) + 1) = 2 by unfold posL posC posE; rw [if_neg hno, if_neg hno, if_neg hno]; exact ⟨rfl, rfl, rfl⟩)
          clear hno
          go_wp2_with fail
          refine (position_any s A n c B ((s.size : Int) + 1) _ R5.out (by omega) (by omega) (by omega)).mono ?_
          rw [HP.out.1, HP.out.2.1, HP.out.2.2]
          rintro e w6 ⟨rfl, hb6⟩
          have hbb6 := hb5.trans (hb6.mono hsz5)
          go_wp2_with fail
          go_ret
          exact ⟨rfl, hbb6.alloc hbb6.size _⟩
end Go.Proofs.Ythbcnpoldoklbaa
