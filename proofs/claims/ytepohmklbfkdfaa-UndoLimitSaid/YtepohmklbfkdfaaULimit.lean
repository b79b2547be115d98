/- UndoLimit returns true for every input. -/
import Derived.Test.YtepohmklbfkdfaaUText
namespace Go.Proofs.Ytepohmklbfkdfaa
open Go.RowKit

theorem lim_ok (s t : ByteArray) (p : Nat) (hp : p ≤ s.size) : Ed.ok s.size ⟨p, 0, t⟩ = true ∧ (apT s ⟨p, 0, t⟩).size = s.size + t.size := by
  have hok : Ed.ok s.size ⟨p, 0, t⟩ = true := Ed.ok_iff.2 ⟨by simp, by simp, by simp only; omega, by simp only; omega⟩
  have := apT_size_ok hok
  simp only at this
  exact ⟨hok, by omega⟩
theorem tmod_nat (a b : Nat) : (a : Int).tmod (b : Int) = ((a % b : Nat) : Int) := rfl

set_option maxRecDepth 100000 in
set_option maxHeartbeats 4000000 in
theorem lawLimit_any (x y z : Int) (w : World) (hx : 0 ≤ x ∧ x ≤ 65535) (hy : 0 ≤ y ∧ y ≤ 65535) (hz : 0 ≤ z ∧ z ≤ 65535) : Calls Try.prog 8 #[.int .u16 x, .int .u16 y, .int .u16 z] w fun e w' => e = .returned (.bool true) ∧ Below w.heap.size w w' := by
  obtain ⟨a, rfl⟩ := Int.eq_ofNat_of_zero_le hx.1
  obtain ⟨b, rfl⟩ := Int.eq_ofNat_of_zero_le hy.1
  obtain ⟨c, rfl⟩ := Int.eq_ofNat_of_zero_le hz.1
  have ha : a ≤ 65535 := by omega
  have hb : b ≤ 65535 := by omega
  have hc : c ≤ 65535 := by omega
  clear hx hy hz
  obtain ⟨n, hn⟩ : ∃ n, a % 4001 = n := ⟨_, rfl⟩
  obtain ⟨m, hm⟩ : ∃ m, c % 4001 = m := ⟨_, rfl⟩
  have hn4 : n ≤ 4000 := by omega
  have hm4 : m ≤ 4000 := by omega
  obtain ⟨p, hp⟩ : ∃ p, b % (n + 1) = p := ⟨_, rfl⟩
  have hpn : p ≤ n := by have := Nat.mod_lt b (show 0 < n + 1 by omega); omega
  have u1 : IntKind.i64.wrap (a : Int) = (a : Int) := IntWalk.i64_in _ (by omega)
  have u2 : IntKind.i64.wrap (b : Int) = (b : Int) := IntWalk.i64_in _ (by omega)
  have u3 : IntKind.i64.wrap (c : Int) = (c : Int) := IntWalk.i64_in _ (by omega)
  have u4 : (a : Int) % 4001 = (n : Int) := by omega
  have u5 : (c : Int) % 4001 = (m : Int) := by omega
  have HN := Lib.hid hn
  have HM := Lib.hid hm
  have HP := Lib.hid hp
  clear hn hm hp
  go_enter Try.func8, Try.ntmps8
  go_wp2_with fail
  refine (awake_any _).mono ?_
  rintro e w1 ⟨rfl, hb1⟩
  go_wp2_with fail
  refine (textN_any n _ (by omega)).mono ?_
  rintro e w2 ⟨s, hs, rfl, hb2⟩
  have hbb2 := hb1.trans (hb2.mono hb1.size)
  have HS := Lib.hid hs
  clear hs hb1 hb2
  go_wp2_with fail
  refine (new_any s _).mono ?_
  rintro e w3 ⟨rfl, rfl⟩
  have hs2 := hbb2.size
  have H3 := new_hist s w2 (fun k => w.heap.size ≤ k) hs2
  have hb3 := hbb2.alloc hs2 (.cells #[.string s, .int .i64 0, .slice none 0 0, .slice none 0 0] 54)
  obtain ⟨g, hg⟩ : ∃ g, w2.heap.size = g := ⟨_, rfl⟩
  rw [hg] at H3 ⊢
  have HH3 := Lib.hid H3
  clear H3 hg hs2
  generalize w2.alloc (.cells #[.string s, .int .i64 0, .slice none 0 0, .slice none 0 0] 54) = w3 at *
  clear hbb2
  have v1 : IntKind.i64.wrap ((n : Int) + 1) = (n : Int) + 1 := IntWalk.i64_in _ (by omega)
  have v2 : (b : Int).tmod ((n : Int) + 1) = (p : Int) := by rw [← HP.out]; exact tmod_nat b (n + 1)
  have v3 : b % (n + 1) = p := HP.out
  have v5 : IntKind.i64.wrap (p : Int) = (p : Int) := IntWalk.i64_in _ (by omega)
  have v6 : ((n : Int) + 1 == 0) = false := by rw [beq_eq_false_iff_ne]; omega
  have v7 : ¬ ((n : Int) + 1 = 0) := by omega
  have v8 : (b : Int) % ((n : Int) + 1) = (p : Int) := by rw [← v3]; exact (Int.natCast_emod b (n + 1)).symm
  have v9 : IntKind.i64.wrap ((n : Int) + m) = (n : Int) + m := IntWalk.i64_in _ (by omega)
  have hz3 := hb3.size
  have HST := Lib.hid (show (CH.new s).hs.Small 1048576 900 from (CInv.new s).small (by have := HS.out; omega) (by omega))
  have HV := Lib.hid (show (CH.new s).hs.v ≤ 1000000 from Nat.zero_le _)
  go_wp2_with fail
  go_region_with (first
    | (go_at_call 22; refine (textN_any m _ (by omega)).mono ?_; rintro e w4 ⟨t, ht, rfl, hb4⟩; have HT := Lib.hid ht; clear ht; have hb4' : Below w3.heap.size w3 w4 := below_from_drewN (n := 1) hb4; have HH4 := Lib.hid (HH3.out.below hb4'); have hbb4 := hb3.trans (hb4'.mono hz3); have htz : t.size ≤ 1048576 := by rw [HT.out]; omega)
    | (go_at_call 19; (with_reducible refine (do_any (fun k => w.heap.size ≤ k) g (CH.new s).hs p 0 t _ HH4.out HST.out htz HV.out).mono ?_); rintro e w5 ⟨rfl, hp⟩))
  obtain ⟨H5, hb5⟩ := hp.base hbb4.size
  have hbb5 := hbb4.trans hb5
  obtain ⟨l1, l2⟩ := lim_ok s t p (by rw [HS.out]; exact hpn)
  rw [HS.out, HT.out] at l2
  clear v1 v2 v3 v5 v6 v7 v8 u1 u2 u3 u4 u5 hb5 hp
  by_cases hbig : n + m ≤ 4000
  · have hE : doE (CH.new s).hs ⟨p, 0, t⟩ = 0 := by
      show (if Ed.ok s.size ⟨p, 0, t⟩ then (if (apT s ⟨p, 0, t⟩).size ≤ 4000 then 0 else 11) else 2) = _
      rw [if_pos l1, if_pos (by omega)]
    have hH : (doH (CH.new s).hs ⟨p, 0, t⟩).t.size = n + m ∧ (doH (CH.new s).hs ⟨p, 0, t⟩).v = 1 := by
      unfold doH
      rw [if_pos hE]
      exact ⟨l2, rfl⟩
    obtain ⟨h', hh'⟩ : ∃ h', doH (CH.new s).hs ⟨p, 0, t⟩ = h' := ⟨_, rfl⟩
    rw [hh'] at H5 hH
    obtain ⟨T, v, U, R⟩ := h'
    obtain ⟨q1, q2⟩ := hH
    simp only at q1 q2
    subst q2
    have HH5 := Lib.hid H5
    rw [hE]
    have d1 : decide ((4000 : Int) < (n : Int) + m) = false := by simp; omega
    have d2 : decide (4000 < n + m) = false := by simp; omega
    have d3 : ((T.size : Int) == (n : Int) + m) = true := by rw [beq_iff_eq]; omega
    have hTz : T.size ≤ 4000 := by omega
    have c1 : (((1 : Nat) : Int) == 1) = true := rfl
    clear l1 l2 hE hh' q1 H5
    go_wp2_with fail
    refine (text_any g T _ HH5.out.text).mono ?_
    rintro e w' ⟨rfl, rfl⟩
    go_wp2_with fail
    refine (version_any g 1 _ HH5.out.ver).mono ?_
    rintro e w' ⟨rfl, rfl⟩
    go_wp2_with fail
    go_ret
    exact ⟨rfl, hbb5⟩
  · have hE : doE (CH.new s).hs ⟨p, 0, t⟩ = 11 := by
      show (if Ed.ok s.size ⟨p, 0, t⟩ then (if (apT s ⟨p, 0, t⟩).size ≤ 4000 then 0 else 11) else 2) = _
      rw [if_pos l1, if_neg (by omega)]
    have hH : doH (CH.new s).hs ⟨p, 0, t⟩ = (CH.new s).hs := by
      unfold doH
      rw [if_neg (by rw [hE]; decide)]
    rw [hH] at H5
    have HH5 := Lib.hid H5
    rw [hE]
    have d1 : decide ((4000 : Int) < (n : Int) + m) = true := by simp; omega
    have d2 : decide (4000 < n + m) = true := by simp; omega
    have d3 : ((s.size : Int) == (n : Int)) = true := by rw [beq_iff_eq, HS.out]
    have hTz : s.size ≤ 4000 := by rw [HS.out]; exact hn4
    clear l1 l2 hE hH H5
    go_wp2_with fail
    refine (text_any g s _ HH5.out.text).mono ?_
    rintro e w' ⟨rfl, rfl⟩
    go_wp2_with fail
    refine (version_any g 0 _ HH5.out.ver).mono ?_
    rintro e w' ⟨rfl, rfl⟩
    go_wp2_with fail
    go_ret
    exact ⟨rfl, hbb5⟩
end Go.Proofs.Ytepohmklbfkdfaa
