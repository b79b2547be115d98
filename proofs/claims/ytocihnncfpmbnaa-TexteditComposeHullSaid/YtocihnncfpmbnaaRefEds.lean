/- The reference's ApplyAll: as the program's. -/
import Derived.Test.YtocihnncfpmbnaaEds
import Derived.Test.YtocihnncfpmbnaaRefEdit
namespace Go.Proofs.Ytocihnncfpmbnaa
open Go.RowKit

set_option maxHeartbeats 1000000 in
theorem refApplyAll_any (s : ByteArray) (A : Option Addr) (n c B : Nat) (l : List Ed) (w : World) (hl : Reads w B 3 A n (eds l)) (hB : B ≤ w.heap.size) (hn : n ≤ maxLen) (hs : s.size + sumIns l ≤ 9223372036854775807) :
    Calls Try.prog 17 #[.string s, .slice A n c] w fun e w' => e = .returned (.tuple #[.string (apAll s l).1, .int .i64 (apAll s l).2]) ∧ Below w.heap.size w w' := by
  have HL := Lib.hid hl
  have HLN := Lib.hid hl.len_eds
  have HS := Lib.hid hs
  unfold maxLen at hn
  clear hl hs
  go_enter Try.func17, Try.ntmps17
  go_wp2_with fail
  go_loopw [0, 6] (fun a b wr => ∃ (k : Nat) (T : ByteArray), k ≤ n ∧ b = .int .i64 k ∧ a = .string T ∧ Below w.heap.size w wr ∧ Hid (T.size + sumIns (l.drop k) ≤ 9223372036854775807) ∧ Hid (apAll s l = apAll T (l.drop k))) (fun _ b _ => n - (intOf b).toNat)
  case atStart => exact ⟨0, s, Nat.zero_le _, rfl, rfl, Below.refl _ _, HS.out, rfl⟩
  case round =>
    obtain ⟨k, T, hk, rfl, rfl, hb, HT, HA⟩ := hrel
    have hsz := hb.size
    by_cases hlt : k < n
    · obtain ⟨b, off, t, rfl, hbl, ht, h0, h1, h2⟩ := (HL.out.below (hb.mono hB)).ed_at hlt
      have hd := drop_cons_ed ht
      have e1 := HT.out
      have e2 := HA.out
      rw [hd] at e1 e2
      simp only [sumIns, List.map_cons, List.sum_cons] at e1
      have e3 : T.size + t.ins.size ≤ 9223372036854775807 := by omega
      have HE := Lib.hid e1
      have HA2 := Lib.hid e2
      obtain ⟨tp, td, ti⟩ := t
      simp only at h0 h1 h2 e3
      clear e1 e2 hd ht
      cases hok : Ed.ok T.size ⟨tp, td, ti⟩ with
      | true =>
        go_wp2_with (go_at_call 15; refine (refApply_any T tp td ti _ e3).mono ?_; rintro e w1 ⟨rfl, hb1⟩; rw [apF_ok hok])
        go_roundw
        case rel =>
          refine ⟨k + 1, _, by omega, by go_num, rfl, hb.trans (hb1.mono hsz), ?_, ?_⟩
          · have h3 := apT_size T ⟨tp, td, ti⟩
            have h4 := HE.out
            simp only at h3 h4
            show (apT T ⟨tp, td, ti⟩).size + sumIns (l.drop (k + 1)) ≤ _
            simp only [sumIns]
            omega
          · rw [apAll_ok hok] at HA2
            exact HA2.out
        case measure => simp [intOf]; omega
      | false =>
        go_wp2_with (go_at_call 15; refine (refApply_any T tp td ti _ e3).mono ?_; rintro e w1 ⟨rfl, hb1⟩; rw [apF_no hok])
        go_ret2
        refine ⟨?_, hb.trans (hb1.mono hsz)⟩
        rw [HA2.out, apAll_no hok]
        rfl
    · have e2 := HA.out
      rw [List.drop_eq_nil_of_le (by have := HLN.out; omega)] at e2
      have HA2 := Lib.hid e2
      clear e2
      go_wp2_with fail
      go_ret2
      exact ⟨by rw [HA2.out]; rfl, hb⟩
end Go.Proofs.Ytocihnncfpmbnaa
