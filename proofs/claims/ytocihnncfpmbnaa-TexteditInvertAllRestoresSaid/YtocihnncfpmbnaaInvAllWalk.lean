/- InvertAll: the walk. -/
import Derived.Test.YtocihnncfpmbnaaInvAll
namespace Go.Proofs.Ytocihnncfpmbnaa
open Go.RowKit

theorem apAll_size' : ∀ (l : List Ed) (s : ByteArray), (apAll s l).1.size ≤ s.size + sumIns l
  | [], s => by simp [apAll]
  | e :: l, s => by
    cases h : e.ok s.size with
    | true =>
      rw [apAll_ok h]
      have h1 := apAll_size' l (apT s e)
      have h2 := apT_size s e
      simp only [sumIns, List.map_cons, List.sum_cons] at *
      omega
    | false => rw [apAll_no h]; exact Nat.zero_le _
theorem invAll_ok {s : ByteArray} {l : List Ed} (h : (apAll s l).2 = 0) : invAll s l = (invs s l).reverse := by unfold invAll; rw [if_pos h]
theorem invAll_no {s : ByteArray} {l : List Ed} (h : (apAll s l).2 ≠ 0) : invAll s l = [] := by unfold invAll; rw [if_neg h]

set_option maxHeartbeats 1000000 in
theorem invertAll_any (s : ByteArray) (A : Option Addr) (n c B : Nat) (l : List Ed) (w : World) (hl : Reads w B 3 A n (eds l)) (hB : B ≤ w.heap.size) (hn : n ≤ 1000000) (hs : s.size + sumIns l ≤ 9223372036854775807) :
    Calls Try.prog 24 #[.string s, .slice A n c] w
      fun e w' => ∃ A' m, e = .returned (.tuple #[.slice A' m m, .int .i64 (apAll s l).2]) ∧ m ≤ 1000000 ∧ Reads w' w'.heap.size 3 A' m (eds (invAll s l)) ∧ Below w.heap.size w w' := by
  have HL := Lib.hid hl
  have HLN := Lib.hid hl.len_eds
  have HS := Lib.hid hs
  have hmk := run_make_ed w n hn
  clear hl hs
  go_enter Try.func24, Try.ntmps24
  go_wp2_with fail
  clear hmk
  go_loopw [0, 16] (fun a b wr => ∃ (k : Nat) (T : ByteArray) (acc : List Ed), k ≤ n ∧ b = .int .i64 k ∧ a = .string T ∧ acc.length = k ∧ Blk wr w.heap.size 23 (eds (List.replicate (n - k) ed0 ++ acc)).toArray ∧ Below w.heap.size w wr ∧
      Hid (T.size + sumIns (l.drop k) ≤ 9223372036854775807) ∧ Hid (apAll s l = apAll T (l.drop k)) ∧ Hid (invs s l = acc.reverse ++ invs T (l.drop k))) (fun _ b _ => n - (intOf b).toNat)
  case atStart =>
    refine ⟨0, s, [], Nat.zero_le _, rfl, rfl, rfl, ?_, (Below.refl _ _).alloc (Nat.le_refl _) _, HS.out, rfl, rfl⟩
    rw [List.append_nil]
    exact Blk.new' _ _ _ rfl
  case round =>
    obtain ⟨k, T, acc, hk, rfl, rfl, hacc, G, hb, HT, HA, HI⟩ := hrel
    have hsz := hb.size
    have hgl := G.lt
    by_cases hlt : k < n
    · obtain ⟨b, off, t, rfl, hbl, ht, h0, h1, h2⟩ := (HL.out.below (hb.mono hB)).ed_at hlt
      have hd := drop_cons_ed ht
      have e1 := HT.out
      have e2 := HA.out
      have e5 := HI.out
      rw [hd] at e1 e2 e5
      simp only [sumIns, List.map_cons, List.sum_cons] at e1
      simp only [invs] at e5
      have e3 : T.size + t.ins.size ≤ 9223372036854775807 := by omega
      have HE := Lib.hid e1
      have HA2 := Lib.hid e2
      have HI2 := Lib.hid e5
      obtain ⟨m, hm⟩ : ∃ m, n = m + 1 + k := ⟨n - 1 - k, by omega⟩
      have hm1 : n - k = m + 1 := by omega
      rw [hm1] at G
      have HM := Lib.hid hm
      have hml : m < n := by omega
      have v1 : IntKind.i64.wrap ((n : Int) - 1) = (n : Int) - 1 := IntWalk.i64_in _ (by omega)
      have v2 : IntKind.i64.wrap ((n : Int) - 1 - (k : Int)) = (m : Int) := by rw [IntWalk.i64_in _ (by omega)]; omega
      obtain ⟨tp, td, ti⟩ := t
      simp only at h0 h1 h2 e3
      clear e1 e2 e5 hd ht hm1 hm
      have K1 := Blk.new' wr 23 #[.int .i64 tp, .int .i64 td, .string ti] rfl
      have G1 := G.alloc (.cells #[.int .i64 tp, .int .i64 td, .string ti] 23)
      have hb1 := hb.alloc hsz (.cells #[.int .i64 tp, .int .i64 td, .string ti] 23)
      cases hok : Ed.ok T.size ⟨tp, td, ti⟩ with
      | true =>
        have hnw : invs s l = ((inv T ⟨tp, td, ti⟩) :: acc).reverse ++ invs (apT T ⟨tp, td, ti⟩) (l.drop (k + 1)) := by rw [HI2.out]; simp
        have HN := Lib.hid hnw
        clear hnw HI2 HI HA HT
        obtain ⟨⟨ip, id, ii⟩, hI⟩ : ∃ e, inv T ⟨tp, td, ti⟩ = e := ⟨_, rfl⟩
        rw [hI] at HN
        have HII := Lib.hid hI
        clear hI
        go_wp2_with fail
        refine (invert_any T tp td ti _ (by omega) (by omega)).mono ?_
        rw [apF_ok hok, HII.out]
        rintro e w1 ⟨rfl, hb2⟩
        have K2 := (K1.below hb2 (by simp)).alloc (.cells #[.int .i64 ip, .int .i64 id, .string ii] 23)
        have G2 := (G1.below hb2 (by simp; omega)).alloc (.cells #[.int .i64 ip, .int .i64 id, .string ii] 23)
        have hbb2 : Below w.heap.size w w1 := hb1.trans (hb2.mono hb1.size)
        have hbb3 := hbb2.alloc hbb2.size (.cells #[.int .i64 ip, .int .i64 id, .string ii] 23)
        have hs2 := hb2.size
        simp only [World.size_alloc] at hs2
        have f0 := G2.frozen (m * 3)
        have f1 := G2.frozen (m * 3 + 1)
        have f2 := G2.frozen (m * 3 + 2)
        have hx : (List.replicate (m + 1) ed0 ++ acc)[m]? = some ed0 := by rw [List.getElem?_append_left (by simp)]; simp
        have q0 := eds_at _ m _ 0 hx (by omega)
        have q1 := eds_at _ m _ 1 hx (by omega)
        have q2 := eds_at _ m _ 2 hx (by omega)
        have c0 : (w1.alloc (.cells #[.int .i64 ip, .int .i64 id, .string ii] 23)).cell? ⟨w.heap.size, m * 3, none⟩ = some (.int .i64 0) := by rw [G2.cell, List.getElem?_toArray]; exact q0
        have c1 : (w1.alloc (.cells #[.int .i64 ip, .int .i64 id, .string ii] 23)).cell? ⟨w.heap.size, m * 3 + 1, none⟩ = some (.int .i64 0) := by rw [G2.cell, List.getElem?_toArray]; exact q1
        have c2 : (w1.alloc (.cells #[.int .i64 ip, .int .i64 id, .string ii] 23)).cell? ⟨w.heap.size, m * 3 + 2, none⟩ = some (.string ⟨#[]⟩) := by rw [G2.cell, List.getElem?_toArray]; exact q2
        have d0 := K2.cell 0
        have d1 := K2.cell 1
        have d2 := K2.cell 2
        simp at d0 d1 d2
        clear q0 q1 q2 hx
        have hne1 : wr.heap.size ≠ w.heap.size := by omega
        have hne2 : w.heap.size ≠ wr.heap.size := by omega
        go_wp2_with fail
        refine (apply_any T tp td ti _ (by omega)).mono ?_
        rw [apF_ok hok]
        rintro e w2 ⟨rfl, hb4⟩
        have G3 := (G2.set_ed m ⟨ip, id, ii⟩).below hb4 (by simp; omega)
        have hbb4 : Below w.heap.size w w2 := (((hbb3.setCell (by simp) _).setCell (by simp) _).setCell (by simp) _).trans (hb4.mono (by simp; omega))
        go_wp2_with fail
        go_roundw
        case rel =>
          refine ⟨k + 1, apT T ⟨tp, td, ti⟩, ⟨ip, id, ii⟩ :: acc, by omega, by go_num, rfl, by simp [hacc], ?_, hbb4, ?_, ?_, HN.out⟩
          · rw [rep_set] at G3
            rw [show n - (k + 1) = m by have := HM.out; omega]
            exact G3
          · have h3 := apT_size T ⟨tp, td, ti⟩
            have h4 := HE.out
            simp only at h3 h4
            show (apT T ⟨tp, td, ti⟩).size + sumIns (l.drop (k + 1)) ≤ _
            simp only [sumIns]
            omega
          · show apAll s l = apAll (apT T ⟨tp, td, ti⟩) (l.drop (k + 1))
            rw [HA2.out, apAll_ok hok]
        case measure => simp [intOf]; omega
      | false =>
        have hz : (apAll s l).2 = 2 := by rw [HA2.out, apAll_no hok]
        have HZ := Lib.hid hz
        have HN := Lib.hid (invAll_no (s := s) (l := l) (by rw [hz]; simp))
        clear hz HI HI2 HA HA2
        go_wp2_with (go_at_call 18; refine (invert_any T tp td ti _ (by omega) (by omega)).mono ?_; rintro e w1 ⟨rfl, hb2⟩; rw [apF_no hok])
        go_ret2
        have hbb2 : Below w.heap.size w w1 := hb1.trans (hb2.mono hb1.size)
        refine ⟨none, 0, by rw [HZ.out]; rfl, by omega, ?_, hbb2.alloc hbb2.size _⟩
        rw [HN.out]
        exact Reads.nil_
    · have hkn : k = n := by omega
      have hd : l.drop k = [] := List.drop_eq_nil_of_le (by have := HLN.out; omega)
      have e2 := HA.out
      have e5 := HI.out
      rw [hd] at e2 e5
      simp only [invs, List.append_nil] at e5
      have hz : (apAll s l).2 = 0 := by rw [e2]; rfl
      have hin : invAll s l = acc := by rw [invAll_ok hz, e5, List.reverse_reverse]
      have HZ := Lib.hid hz
      have HN := Lib.hid hin
      have G0 : Blk wr w.heap.size 23 (eds acc).toArray := by
        rw [hkn, Nat.sub_self] at G
        exact G
      clear hd e2 e5 hz hin HI HA G
      go_wp2_with fail
      go_ret2
      refine ⟨some ⟨w.heap.size, 0, none⟩, n, by rw [HZ.out]; rfl, hn, ?_, hb⟩
      rw [HN.out]
      exact Reads.of_blk G0 hgl rfl (by rw [eds_length, hacc, hkn])
end Go.Proofs.Ytocihnncfpmbnaa
