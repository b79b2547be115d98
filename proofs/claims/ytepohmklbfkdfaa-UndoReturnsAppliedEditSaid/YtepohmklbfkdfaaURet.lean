/- UndoReturnsAppliedEdit returns true for every input within the form's reach. -/
import Derived.Test.YtepohmklbfkdfaaULaw
namespace Go.Proofs.Ytepohmklbfkdfaa
open Go.RowKit

set_option maxRecDepth 100000 in
set_option maxHeartbeats 2000000 in
theorem lawRet_any (s : ByteArray) (A : Option Addr) (n c : Nat) (l : List St) (w : World) (hl : Reads w w.heap.size 4 A n (sts l)) (hn : n ≤ maxLen) (hs : s.size ≤ reachBytes) (ht : ∀ t ∈ l, t.e.ins.size ≤ reachBytes) :
    Calls Try.prog 4 #[.string s, .slice A n c] w fun e w' => e = .returned (.bool true) ∧ Below w.heap.size w w' := by
  have HL := Lib.hid hl
  have HLN := Lib.hid hl.len_sts
  have HT := Lib.hid ht
  have NE := tl_ne
  clear hl ht
  go_enter Try.func4, Try.ntmps4
  go_wp2_with fail
  refine (awake_any _).mono ?_
  rintro e w1 ⟨rfl, hb1⟩
  have hs1 := hb1.size
  have HL1 := Lib.hid (HL.out.below hb1)
  go_wp2_with fail
  refine (few_any s A n c w.heap.size l _ HL1.out hn hs HT.out).mono ?_
  rintro e w2 ⟨bo, rfl, hok, hb2⟩
  have hbb2 : Below w.heap.size w w2 := hb1.trans (hb2.mono hs1)
  have hs2 := hbb2.size
  clear hb2 HL1 hb1
  cases bo with
  | false =>
    go_wp2_with fail
    go_ret
    exact ⟨rfl, hbb2⟩
  | true =>
  obtain ⟨q1, q2⟩ := hok rfl
  have hsz : s.size ≤ 20000 := by omega
  have HQ := Lib.hid q2
  clear hok q2 hs hs1
  go_wp2_with fail
  refine (new_any s _).mono ?_
  rintro e w3 ⟨rfl, rfl⟩
  have H3 := new_hist s w2 (fun k => w.heap.size ≤ k) hs2
  have hb3 := hbb2.alloc hs2 (.cells #[.string s, .int .i64 0, .slice none 0 0, .slice none 0 0] 54)
  obtain ⟨g, hg⟩ : ∃ g, w2.heap.size = g := ⟨_, rfl⟩
  rw [hg] at H3 ⊢
  have HH3 := Lib.hid H3
  clear H3 hg hs2
  generalize w2.alloc (.cells #[.string s, .int .i64 0, .slice none 0 0, .slice none 0 0] 54) = w3 at *
  clear hbb2
  go_wp2_with fail
  go_loopw [6] (fun a wr => ∃ (k : Nat) (c : CH), k ≤ n ∧ a = .int .i64 k ∧ Hid (CInv s k c) ∧ Hid (Hist wr (fun k => w.heap.size ≤ k) g c.hs) ∧ Below w.heap.size w wr) (fun a _ => n - (intOf a).toNat)
  case atStart => exact ⟨0, CH.new s, Nat.zero_le _, rfl, CInv.new s, HH3.out, hb3⟩
  case round =>
    obtain ⟨k, ch, hk, rfl, HC, HH, hb⟩ := hrel
    have hsz4 := hb.size
    by_cases hlt : k < n
    · obtain ⟨b, off, t, rfl, hbl, htk, h0, h1, h2, h3⟩ := (HL.out.below hb).st_at hlt
      have hmem := sumSt_mem (List.mem_of_getElem? htk)
      have hins : t.e.ins.size ≤ 1048576 := by have := HQ.out; omega
      have hsm := HC.out.small hsz (by omega)
      have hv := HC.out.ver (by omega)
      have hap := HC.out.ok.step_applied t
      have hxi := stepX_ins hsm t hins
      have htx := HC.out.text_le hsz
      have HC2 := Lib.hid (HC.out.step t)
      have HS := Lib.hid (HC.out.ok.step_hs t)
      obtain ⟨tk, tp, td, ti⟩ := t
      simp only at h0 h1 h2 h3 hins
      have HSM := Lib.hid hsm
      have HV := Lib.hid hv
      obtain ⟨T1, hT1⟩ : ∃ T, ch.text = T := ⟨_, rfl⟩
      obtain ⟨T2, hT2⟩ : ∃ T, (ch.stepC ⟨tk, ⟨tp, td, ti⟩⟩).text = T := ⟨_, rfl⟩
      obtain ⟨ch2, hch2⟩ : ∃ c, ch.stepC ⟨tk, ⟨tp, td, ti⟩⟩ = c := ⟨_, rfl⟩
      obtain ⟨E, hE⟩ : ∃ E, stepE ch.hs ⟨tk, ⟨tp, td, ti⟩⟩ = E := ⟨_, rfl⟩
      obtain ⟨⟨xp, xd, xi⟩, hX⟩ : ∃ X, stepX ch.hs ⟨tk, ⟨tp, td, ti⟩⟩ = X := ⟨_, rfl⟩
      rw [hch2] at hT2 hap HC2 HS
      rw [hE, hX, hT1, hT2] at hap
      rw [hX] at hxi
      rw [hT1] at htx
      simp only at hxi
      have HT1 := Lib.hid (show ch.hs.t = T1 from hT1)
      have HT2 := Lib.hid (show ch2.hs.t = T2 from hT2)
      have HE := Lib.hid hE
      have HX := Lib.hid hX
      clear hsm hv hmem htk hT1 hT2 hE hX hch2
      go_wp2_with fail
      refine (text_any g ch.hs.t _ HH.out.text).mono ?_
      rw [HT1.out]
      rintro e w' ⟨rfl, rfl⟩
      go_wp2_with fail
      refine (run_any (fun k => w.heap.size ≤ k) g ch.hs tk tp td ti _ HH.out HSM.out hins HV.out).mono ?_
      rw [HE.out, HX.out, ← HS.out]
      rintro e w5 ⟨rfl, hp⟩
      obtain ⟨H5, hb5⟩ := hp.base hsz4
      have hbb5 := hb.trans hb5
      have hz5 := hbb5.size
      have HH5 := Lib.hid (H5.alloc (.cells #[.int .i64 xp, .int .i64 xd, .string xi] 31))
      have hbb6 := hbb5.alloc hz5 (.cells #[.int .i64 xp, .int .i64 xd, .string xi] 31)
      clear H5 hp hb5 hbb5
      by_cases hE0 : E = 0
      · subst hE0
        obtain ⟨a1, a2⟩ := hap.1 rfl
        have HA := Lib.hid a2
        have HF := Lib.hid (apF_ok a1)
        clear a1 a2 hap
        go_wp2_with fail
        refine (refApply_any T1 xp xd xi _ (by omega)).mono ?_
        rw [HA.out, HF.out]
        rintro e w7 ⟨rfl, hb7⟩
        have HH7 := Lib.hid (HH5.out.below hb7)
        have hbb7 := hbb6.trans (hb7.mono hbb6.size)
        clear hb7
        go_wp2_with fail
        refine (text_any g ch2.hs.t _ HH7.out.text).mono ?_
        rw [HT2.out]
        rintro e w' ⟨rfl, rfl⟩
        go_wp2_with fail
        go_roundw
        case rel => exact ⟨k + 1, ch2, by omega, by go_num, HC2, HH7, hbb7⟩
        case measure => simp [intOf]; omega
      · have hz1 : (E != 0) = true := by simp [hE0]
        have hcc := hap.2 hE0
        subst hcc
        have hTT : T2 = T1 := HT2.out.symm.trans HT1.out
        subst hTT
        clear hap hE0
        go_wp2_with fail
        refine (text_any g ch2.hs.t _ HH5.out.text).mono ?_
        rw [HT2.out]
        rintro e w' ⟨rfl, rfl⟩
        go_wp2_with fail
        go_roundw
        case rel => exact ⟨k + 1, ch2, by omega, by go_num, HC2, HH5, hbb6⟩
        case measure => simp [intOf]; omega
    · go_wp2_with fail
      go_ret
      exact ⟨rfl, hb⟩
end Go.Proofs.Ytepohmklbfkdfaa
