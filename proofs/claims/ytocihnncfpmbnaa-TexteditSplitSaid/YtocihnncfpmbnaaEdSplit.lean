/- TexteditSplit returns true for every input within the form's reach. -/
import Derived.Test.YtocihnncfpmbnaaEdAwake
import Derived.Test.YtocihnncfpmbnaaFew
import Derived.Test.YtocihnncfpmbnaaRefEdit
namespace Go.Proofs.Ytocihnncfpmbnaa
open Go.RowKit

theorem split_T {s : ByteArray} {a b : Int} {t : ByteArray} (h : Ed.ok s.size ⟨a, b, t⟩ = true) :
    Ed.ok s.size ⟨a, b, ⟨#[]⟩⟩ = true ∧ Ed.ok (apT s ⟨a, b, ⟨#[]⟩⟩).size ⟨a, 0, t⟩ = true ∧ apT (apT s ⟨a, b, ⟨#[]⟩⟩) ⟨a, 0, t⟩ = apT s ⟨a, b, t⟩ := by
  obtain ⟨h1, h2, h3, h4⟩ := Ed.ok_iff.1 h
  simp only at h1 h2 h3 h4
  have o1 : Ed.ok s.size ⟨a, b, ⟨#[]⟩⟩ = true := Ed.ok_iff.2 ⟨h1, h2, h3, h4⟩
  have hz := apT_size_ok o1
  simp only at hz
  have e0 : (ByteArray.mk #[]).size = 0 := rfl
  rw [e0] at hz
  have o2 : Ed.ok (apT s ⟨a, b, ⟨#[]⟩⟩).size ⟨a, 0, t⟩ = true := Ed.ok_iff.2 ⟨h1, by simp only; omega, by simp only; omega, by simp only; omega⟩
  refine ⟨o1, o2, bl_inj ?_⟩
  rw [bl_apT o2, bl_apT o1, bl_apT h]
  simp only [bl_empty, List.append_nil, Int.toNat_zero, Nat.add_zero]
  have hl : ((bl s).take a.toNat).length = a.toNat := by rw [List.length_take, bl_length]; omega
  rw [List.take_left' hl, List.drop_left' hl]
theorem split_all {s : ByteArray} {a b : Int} {t : ByteArray} (h : Ed.ok s.size ⟨a, b, t⟩ = true) : apAll s [⟨a, b, ⟨#[]⟩⟩, ⟨a, 0, t⟩] = (apT s ⟨a, b, t⟩, 0) := by
  obtain ⟨o1, o2, e⟩ := split_T h
  rw [apAll_ok o1, apAll_ok o2, e]
  rfl
theorem split_comp {s : ByteArray} {a b : Int} {t : ByteArray} (h : Ed.ok s.size ⟨a, b, t⟩ = true) : compE s [⟨a, b, ⟨#[]⟩⟩, ⟨a, 0, t⟩] = ⟨a, b, t⟩ := by
  obtain ⟨h1, h2, h3, h4⟩ := Ed.ok_iff.1 h
  simp only at h1 h2 h3 h4
  have e0 : (ByteArray.mk #[]).size = 0 := rfl
  have hh : hullOf [⟨a, b, ⟨#[]⟩⟩, ⟨a, 0, t⟩] = ⟨a, a + b, a + t.size⟩ := by
    have hf := hull_first ⟨a, b, ⟨#[]⟩⟩ h2
    simp only at hf
    simp only [hullOf, List.foldl_cons, List.foldl_nil, hf, e0]
    unfold Hl.add
    simp only
    rw [if_neg (by omega), if_neg (by omega)]
    congr 1
    omega
  unfold compE
  rw [split_all h, if_pos ⟨rfl, by simp⟩, hh]
  simp only
  congr 1
  · omega
  · apply bl_inj
    rw [bl_extract, bl_apT h]
    simp only
    have hl : ((bl s).take a.toNat).length = a.toNat := by rw [List.length_take, bl_length]; omega
    rw [show (a + (t.size : Int)).toNat = ((bl s).take a.toNat ++ bl t).length by rw [List.length_append, hl, bl_length]; omega, List.take_left, List.drop_left' hl]

set_option maxRecDepth 100000 in
set_option maxHeartbeats 1000000 in
theorem lawEdSplit_any (s : ByteArray) (a b : Int) (t : ByteArray) (w : World) (hs : s.size ≤ maxLen) (ht : t.size ≤ reachBytes) :
    Calls Try.prog 10 #[.string s, .agg #[.int .i64 a, .int .i64 b, .string t]] w fun e w' => e = .returned (.bool true) ∧ Below w.heap.size w w' := by
  have K := Blk.new' w 23 #[.int .i64 a, .int .i64 b, .string t] rfl
  have hb0 : Below w.heap.size w (w.alloc (.cells #[.int .i64 a, .int .i64 b, .string t] 23)) := (Below.refl _ _).alloc (Nat.le_refl _) _
  have E := run_eql_ed
  have ES := Ed.eqb_self
  go_enter Try.func10, Try.ntmps10
  go_wp2_with fail
  refine (awake_any _).mono ?_
  rintro e w1 ⟨rfl, hb1⟩
  simp only [World.size_alloc] at hb1
  have K1 := K.below hb1 (by omega)
  have hs1 := hb1.size
  have hbb : Below w.heap.size w w1 := hb0.trans (hb1.mono (by omega))
  simp only [World.size_alloc] at hs1
  have g0 := K1.cell 0
  have g1 := K1.cell 1
  have g2 := K1.cell 2
  simp at g0 g1 g2
  clear hb0 K hb1
  go_wp2_with fail
  have KL := Reads.of_blk (B := w1.heap.size + 1) (xs := eds [⟨a, b, t⟩]) (n := 1) (size := 3) (Blk.new' w1 23 #[.int .i64 a, .int .i64 b, .string t] rfl) (by omega) rfl rfl
  refine (few_any s (some ⟨w1.heap.size, 0, none⟩) 1 1 (w1.heap.size + 1) [⟨a, b, t⟩] _ KL (by unfold maxLen; omega) hs (by simpa using ht)).mono ?_
  rintro e w2 ⟨bo, rfl, hok, hb2⟩
  have K2 := (K1.alloc (.cells #[.int .i64 a, .int .i64 b, .string t] 23)).below hb2 (by simp; omega)
  have hbb2 : Below w.heap.size w w2 := (hbb.alloc hbb.size _).trans (hb2.mono (by simp; omega))
  have hs2 := hb2.size
  simp only [World.size_alloc] at hs2
  clear g0 g1 g2 hb2 KL
  cases bo with
  | false =>
    go_wp2_with fail
    go_ret
    exact ⟨rfl, hbb2⟩
  | true =>
  obtain ⟨q1, _, q3⟩ := hok rfl
  have q4 : t.size ≤ 400 := by simpa [sumIns] using q3
  have g0 := K2.cell 0
  have g1 := K2.cell 1
  have g2 := K2.cell 2
  simp at g0 g1 g2
  clear hok q3
  cases hk : Ed.ok s.size ⟨a, b, t⟩ with
  | false =>
    have HK := Lib.hid hk
    clear hk
    go_wp2_with fail
    refine (refFits_any s a b t _ hs).mono ?_
    rw [HK.out]
    rintro e w3 ⟨rfl, hb3⟩
    go_wp2_with fail
    go_ret
    exact ⟨rfl, hbb2.trans (hb3.mono hbb2.size)⟩
  | true =>
    have HK := Lib.hid hk
    have HF := Lib.hid (apF_ok hk)
    have HA := Lib.hid (split_all hk)
    have HC := Lib.hid (split_comp hk)
    have EZ : sumIns [⟨a, b, ⟨#[]⟩⟩, ⟨a, 0, t⟩] = t.size := by simp only [sumIns, List.map_cons, List.map_nil, List.sum_cons, List.sum_nil]; rw [show (ByteArray.mk #[]).size = 0 from rfl]; omega
    have HZ := Lib.hid EZ
    clear hk EZ
    go_wp2_with fail
    refine (refFits_any s a b t _ hs).mono ?_
    rw [HK.out]
    rintro e w3 ⟨rfl, hb3⟩
    have K3 := K2.below hb3 (by omega)
    have K3' := K3.alloc (.cells #[.int .i64 a, .int .i64 b, .string ⟨#[]⟩, .int .i64 a, .int .i64 0, .string t] 23)
    have S3 := Blk.new' w3 23 #[.int .i64 a, .int .i64 b, .string ⟨#[]⟩, .int .i64 a, .int .i64 0, .string t] rfl
    have hbb3 : Below w.heap.size w w3 := hbb2.trans (hb3.mono hbb2.size)
    have hs3 := hbb3.size
    have hbb3' := hbb3.alloc hs3 (.cells #[.int .i64 a, .int .i64 b, .string ⟨#[]⟩, .int .i64 a, .int .i64 0, .string t] 23)
    have hk3 := K2.lt
    have hk3' := hb3.size
    clear g0 g1 g2
    have c0 := K3.cell 0
    have c1 := K3.cell 1
    have c2 := K3.cell 2
    have g0 := K3'.cell 0
    have g1 := K3'.cell 1
    have g2 := K3'.cell 2
    simp at c0 c1 c2 g0 g1 g2
    go_wp2_with fail
    refine (apply_any s a b t _ (by omega)).mono ?_
    rw [HF.out]
    rintro e w4 ⟨rfl, hb4⟩
    have K4 := K3'.below hb4 (by simp; omega)
    have S4 := S3.below hb4 (by simp)
    have hbb4 : Below w.heap.size w w4 := hbb3'.trans (hb4.mono (by simp; omega))
    have hs4 := hb4.size
    simp only [World.size_alloc] at hs4
    clear c0 c1 c2 g0 g1 g2 K3 K3' S3 hb4
    go_wp2_with fail
    refine (applyAll_any s (some ⟨w3.heap.size, 0, none⟩) 2 2 (w3.heap.size + 1) [⟨a, b, ⟨#[]⟩⟩, ⟨a, 0, t⟩] _ (Reads.of_blk S4 (by omega) rfl rfl) (by omega) (by unfold maxLen; omega) (by rw [HZ.out]; omega)).mono ?_
    rw [HA.out]
    rintro e w5 ⟨rfl, hb5⟩
    have K5 := K4.below hb5 (by omega)
    have S5 := S4.below hb5 (by omega)
    have hbb5 : Below w.heap.size w w5 := hbb4.trans (hb5.mono hbb4.size)
    have hs5 := hb5.size
    go_wp2_with fail
    refine (compose_any s (some ⟨w3.heap.size, 0, none⟩) 2 2 (w3.heap.size + 1) [⟨a, b, ⟨#[]⟩⟩, ⟨a, 0, t⟩] _ (Reads.of_blk S5 (by omega) rfl rfl) (by omega) (by omega) (by unfold maxLen; omega) (by rw [HZ.out]; omega)).mono ?_
    rw [HA.out, HC.out]
    rintro e w6 ⟨rfl, hb6⟩
    have K6 := (K5.below hb6 (by omega)).alloc (.cells #[.int .i64 a, .int .i64 b, .string t] 23)
    have hbb6 : Below w.heap.size w w6 := hbb5.trans (hb6.mono hbb5.size)
    have c0 := K6.cell 0
    have c1 := K6.cell 1
    have c2 := K6.cell 2
    simp at c0 c1 c2
    go_wp2_with fail
    go_ret
    exact ⟨rfl, hbb6.alloc hbb6.size _⟩
end Go.Proofs.Ytocihnncfpmbnaa
