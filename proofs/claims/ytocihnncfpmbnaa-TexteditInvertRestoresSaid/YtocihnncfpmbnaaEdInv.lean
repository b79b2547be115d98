/- TexteditInvertRestores returns true for every input within the form's reach. -/
import Derived.Test.YtocihnncfpmbnaaEdAwake
import Derived.Test.YtocihnncfpmbnaaFew
namespace Go.Proofs.Ytocihnncfpmbnaa
open Go.RowKit

theorem apT_no {s : ByteArray} {e : Ed} (h : e.ok s.size = false) : apT s e = ⟨#[]⟩ := by simp [apT, h]
theorem inv_no {s : ByteArray} {e : Ed} (h : e.ok s.size = false) : inv s e = ⟨0, 0, ⟨#[]⟩⟩ := by simp [inv, h]
theorem inv_ins_size (s : ByteArray) (e : Ed) : (inv s e).ins.size ≤ s.size := by
  unfold inv
  split
  · simp only [ByteArray.size_extract]; omega
  · exact Nat.zero_le _
theorem nil_list : ((ByteArray.mk #[]).toList == []) = true := by rw [ByteArray.toList_eq]; decide

set_option maxRecDepth 100000 in
set_option maxHeartbeats 1000000 in
theorem lawEdInv_any (s : ByteArray) (a b : Int) (t : ByteArray) (w : World) (hs : s.size ≤ maxLen) (ht : t.size ≤ reachBytes) :
    Calls Try.prog 5 #[.string s, .agg #[.int .i64 a, .int .i64 b, .string t]] w fun e w' => e = .returned (.bool true) ∧ Below w.heap.size w w' := by
  have K := Blk.new' w 23 #[.int .i64 a, .int .i64 b, .string t] rfl
  have hb0 : Below w.heap.size w (w.alloc (.cells #[.int .i64 a, .int .i64 b, .string t] 23)) := (Below.refl _ _).alloc (Nat.le_refl _) _
  have E := run_eql_ed
  have ES := Ed.eqb_self
  go_enter Try.func5, Try.ntmps5
  go_wp2_with fail
  refine (awake_any _).mono ?_
  rintro e w1 ⟨rfl, hb1⟩
  simp only [World.size_alloc] at hb1
  have K1 := K.below hb1 (by omega)
  have hs1 := hb1.size
  have hbb : Below w.heap.size w w1 := hb0.trans (hb1.mono (by omega))
  simp only [World.size_alloc] at hs1
  have g0 := K1.cell 0
  have g1 := K1.cell 1
  have g2 := K1.cell 2
  simp at g0 g1 g2
  clear hb0 K hb1
  go_wp2_with fail
  have KL := Reads.of_blk (B := w1.heap.size + 1) (xs := eds [⟨a, b, t⟩]) (n := 1) (size := 3) (Blk.new' w1 23 #[.int .i64 a, .int .i64 b, .string t] rfl) (by omega) rfl rfl
  refine (few_any s (some ⟨w1.heap.size, 0, none⟩) 1 1 (w1.heap.size + 1) [⟨a, b, t⟩] _ KL (by unfold maxLen; omega) hs (by simpa using ht)).mono ?_
  rintro e w2 ⟨bo, rfl, hok, hb2⟩
  have K2 := (K1.alloc (.cells #[.int .i64 a, .int .i64 b, .string t] 23)).below hb2 (by simp; omega)
  have hbb2 : Below w.heap.size w w2 := (hbb.alloc hbb.size _).trans (hb2.mono (by simp; omega))
  have hs2 := hb2.size
  simp only [World.size_alloc] at hs2
  clear g0 g1 g2 hb2 KL
  cases bo with
  | false =>
    go_wp2_with fail
    go_ret
    exact ⟨rfl, hbb2⟩
  | true =>
  obtain ⟨q1, _, q3⟩ := hok rfl
  have q4 : t.size ≤ 400 := by simpa [sumIns] using q3
  have g0 := K2.cell 0
  have g1 := K2.cell 1
  have g2 := K2.cell 2
  simp at g0 g1 g2
  clear hok q3
  cases hk : Ed.ok s.size ⟨a, b, t⟩ with
  | false =>
    have HT := Lib.hid (apT_no hk)
    have HI := Lib.hid (inv_no hk)
    have HF := Lib.hid (apF_no hk)
    have L := nil_list
    clear hk
    go_wp2_with fail
    refine (apply_any s a b t _ (by omega)).mono ?_
    rw [HT.out, HF.out]
    rintro e w3 ⟨rfl, hb3⟩
    have K3 := K2.below hb3 (by omega)
    have hbb3 : Below w.heap.size w w3 := hbb2.trans (hb3.mono hbb2.size)
    have c0 := K3.cell 0
    have c1 := K3.cell 1
    have c2 := K3.cell 2
    simp at c0 c1 c2
    clear g0 g1 g2
    go_wp2_with fail
    refine (invert_any s a b t _ (by omega) (by omega)).mono ?_
    rw [HI.out, HF.out]
    rintro e w4 ⟨rfl, hb4⟩
    have hbb4 : Below w.heap.size w w4 := hbb3.trans (hb4.mono hbb3.size)
    clear c0 c1 c2
    go_wp2_with fail
    go_ret
    exact ⟨rfl, hbb4.alloc hbb4.size _⟩
  | true =>
    have hsz := apT_size s ⟨a, b, t⟩
    have hiz := inv_ins_size s ⟨a, b, t⟩
    have hi1 := inv_ok hk
    have hi2 := inv_apT hk
    have hi3 := inv_inv hk
    have HF := Lib.hid (apF_ok hk)
    obtain ⟨T, hT⟩ : ∃ T, apT s ⟨a, b, t⟩ = T := ⟨_, rfl⟩
    obtain ⟨⟨ip, id, ii⟩, hI⟩ : ∃ e, inv s ⟨a, b, t⟩ = e := ⟨_, rfl⟩
    rw [hT] at hsz hi1 hi2 hi3
    rw [hI] at hiz hi1 hi2 hi3
    simp only at hsz hiz
    have HT := Lib.hid hT
    have HI := Lib.hid hI
    have HF2 := Lib.hid (apF_ok hi1)
    have HT2 := Lib.hid hi2
    have HI2 := Lib.hid hi3
    clear hk hi1 hi2 hi3 hT hI
    go_wp2_with fail
    refine (apply_any s a b t _ (by omega)).mono ?_
    rw [HT.out, HF.out]
    rintro e w3 ⟨rfl, hb3⟩
    have K3 := K2.below hb3 (by omega)
    have hbb3 : Below w.heap.size w w3 := hbb2.trans (hb3.mono hbb2.size)
    have hs3 := hbb3.size
    have c0 := K3.cell 0
    have c1 := K3.cell 1
    have c2 := K3.cell 2
    simp at c0 c1 c2
    clear g0 g1 g2
    go_wp2_with fail
    refine (invert_any s a b t _ (by omega) (by omega)).mono ?_
    rw [HI.out, HF.out]
    rintro e w4 ⟨rfl, hb4⟩
    have K4 := (K3.below hb4 (by have := hb3.size; omega)).alloc (.cells #[.int .i64 ip, .int .i64 id, .string ii] 23)
    have I4 := Blk.new' w4 23 #[.int .i64 ip, .int .i64 id, .string ii] rfl
    have hbb4 : Below w.heap.size w (w4.alloc (.cells #[.int .i64 ip, .int .i64 id, .string ii] 23)) := (hbb3.trans (hb4.mono hbb3.size)).alloc (hbb3.trans (hb4.mono hbb3.size)).size _
    have hs4 := hb4.size
    clear c0 c1 c2 K3
    go_wp2_with fail
    refine (apply_any T ip id ii _ (by omega)).mono ?_
    rw [HT2.out, HF2.out]
    rintro e w5 ⟨rfl, hb5⟩
    have K5 := K4.below hb5 (by simp; omega)
    have I5 := I4.below hb5 (by simp)
    have hbb5 : Below w.heap.size w w5 := hbb4.trans (hb5.mono hbb4.size)
    have hs5 := hb5.size
    simp only [World.size_alloc] at hs5
    have c0 := I5.cell 0
    have c1 := I5.cell 1
    have c2 := I5.cell 2
    simp at c0 c1 c2
    go_wp2_with fail
    refine (invert_any T ip id ii _ (by omega) (by omega)).mono ?_
    rw [HI2.out, HF2.out]
    rintro e w6 ⟨rfl, hb6⟩
    have K6 := (K5.below hb6 (by omega)).alloc (.cells #[.int .i64 a, .int .i64 b, .string t] 23)
    have hbb6 : Below w.heap.size w w6 := hbb5.trans (hb6.mono hbb5.size)
    clear c0 c1 c2
    have g0 := K6.cell 0
    have g1 := K6.cell 1
    have g2 := K6.cell 2
    simp at g0 g1 g2
    go_wp2_with fail
    go_ret
    exact ⟨rfl, hbb6.alloc hbb6.size _⟩
end Go.Proofs.Ytocihnncfpmbnaa
