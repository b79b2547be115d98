/- TexteditRebaseCommutes returns true for every input within the form's reach. -/
import Derived.Test.YtocihnncfpmbnaaEdAwake
import Derived.Test.YtocihnncfpmbnaaFew
import Derived.Test.YtocihnncfpmbnaaRefEdit
namespace Go.Proofs.Ytocihnncfpmbnaa
open Go.RowKit

theorem rebO_comm (x y : Ed) : rebO x y = rebO y x := by
  unfold rebO
  cases x.may <;> cases y.may <;> simp [Bool.or_comm]
/-- Two edits that do not meet: the later one first, then the earlier one; or the earlier one first, then the later one moved. -/
theorem meet_not {s : ByteArray} {x y : Ed} (hx : x.ok s.size = true) (hy : y.ok s.size = true) (h : x.pos + x.del ≤ y.pos) :
    x.ok (apT s y).size = true ∧ Ed.ok (apT s x).size ⟨y.pos + x.ins.size - x.del, y.del, y.ins⟩ = true ∧
      apT (apT s y) x = apT (apT s x) ⟨y.pos + x.ins.size - x.del, y.del, y.ins⟩ := by
  obtain ⟨x1, x2, x3, x4⟩ := Ed.ok_iff.1 hx
  obtain ⟨y1, y2, y3, y4⟩ := Ed.ok_iff.1 hy
  have zx := apT_size_ok hx
  have zy := apT_size_ok hy
  have o1 : x.ok (apT s y).size = true := Ed.ok_iff.2 ⟨x1, x2, by omega, by omega⟩
  have o2 : Ed.ok (apT s x).size ⟨y.pos + x.ins.size - x.del, y.del, y.ins⟩ = true := Ed.ok_iff.2 ⟨by simp only; omega, y2, by simp only; omega, by simp only; omega⟩
  refine ⟨o1, o2, bl_inj ?_⟩
  rw [bl_apT o1, bl_apT o2, bl_apT hx, bl_apT hy]
  simp only
  have hb : (bl s).length = s.size := bl_length s
  have hi : (bl x.ins).length = x.ins.size := bl_length _
  have hl : ((bl s).take x.pos.toNat).length = x.pos.toNat := by rw [List.length_take]; omega
  have hm : ((bl s).take y.pos.toNat).length = y.pos.toNat := by rw [List.length_take]; omega
  -- the earlier edit's text and what is before the later one
  have e1 : ((bl s).take y.pos.toNat ++ bl y.ins ++ (bl s).drop (y.pos.toNat + y.del.toNat)).take x.pos.toNat = (bl s).take x.pos.toNat := by
    rw [List.append_assoc, List.take_append_of_le_length (by omega), List.take_take, Nat.min_eq_left (by omega)]
  have e2 : ((bl s).take y.pos.toNat ++ bl y.ins ++ (bl s).drop (y.pos.toNat + y.del.toNat)).drop (x.pos.toNat + x.del.toNat) =
      ((bl s).take y.pos.toNat).drop (x.pos.toNat + x.del.toNat) ++ (bl y.ins ++ (bl s).drop (y.pos.toNat + y.del.toNat)) := by
    rw [List.append_assoc, List.drop_append_of_le_length (by omega)]
  have q : (y.pos + (x.ins.size : Int) - x.del).toNat = x.pos.toNat + x.ins.size + (y.pos.toNat - (x.pos.toNat + x.del.toNat)) := by omega
  have hpl : ((bl s).take x.pos.toNat ++ bl x.ins).length = x.pos.toNat + x.ins.size := by rw [List.length_append, hl, hi]
  have e3 : ((bl s).take x.pos.toNat ++ bl x.ins ++ (bl s).drop (x.pos.toNat + x.del.toNat)).take (x.pos.toNat + x.ins.size + (y.pos.toNat - (x.pos.toNat + x.del.toNat))) =
      (bl s).take x.pos.toNat ++ bl x.ins ++ ((bl s).drop (x.pos.toNat + x.del.toNat)).take (y.pos.toNat - (x.pos.toNat + x.del.toNat)) := by
    rw [← hpl, List.take_length_add_append]
  have e4 : ((bl s).take x.pos.toNat ++ bl x.ins ++ (bl s).drop (x.pos.toNat + x.del.toNat)).drop (x.pos.toNat + x.ins.size + (y.pos.toNat - (x.pos.toNat + x.del.toNat)) + y.del.toNat) =
      (bl s).drop (y.pos.toNat + y.del.toNat) := by
    rw [drop_app (by rw [hpl]; omega), hpl, List.drop_drop]
    congr 1
    omega
  rw [e1, e2, q, e3, e4, List.drop_take]
  simp only [List.append_assoc]
theorem comm_both {s : ByteArray} {x y : Ed} (hx : x.ok s.size = true) (hy : y.ok s.size = true) (ho : rebO x y = true) (hn : ¬ (x.del = 0 ∧ y.del = 0 ∧ x.pos = y.pos)) :
    ∃ X, apAll s [x, rebE y x] = (X, 0) ∧ apAll s [y, rebE x y] = (X, 0) := by
  unfold rebO at ho
  simp only [Bool.and_eq_true, Bool.or_eq_true, decide_eq_true_eq] at ho
  obtain ⟨mx, my, d⟩ := ho
  obtain ⟨x1, x2, x3, x4⟩ := Ed.ok_iff.1 hx
  obtain ⟨y1, y2, y3, y4⟩ := Ed.ok_iff.1 hy
  by_cases d1 : y.pos + y.del ≤ x.pos
  · have d2 : ¬ x.pos + x.del ≤ y.pos := fun h => hn ⟨by omega, by omega, by omega⟩
    have r1 : rebE y x = y := by simp [rebE, mx, my, d1, d2]
    have r2 : rebE x y = ⟨x.pos + y.ins.size - y.del, x.del, x.ins⟩ := by simp [rebE, mx, my, d1]
    obtain ⟨o1, o2, e⟩ := meet_not hy hx d1
    rw [r1, r2, apAll_ok hx, apAll_ok hy, apAll_ok o1, apAll_ok o2, e]
    exact ⟨_, rfl, rfl⟩
  · have d2 : x.pos + x.del ≤ y.pos := d.resolve_left d1
    have r1 : rebE x y = x := by simp [rebE, mx, my, d1, d2]
    have r2 : rebE y x = ⟨y.pos + x.ins.size - x.del, y.del, y.ins⟩ := by simp [rebE, mx, my, d2]
    obtain ⟨o1, o2, e⟩ := meet_not hx hy d2
    rw [r1, r2, apAll_ok hx, apAll_ok hy, apAll_ok o1, apAll_ok o2, e]
    exact ⟨_, rfl, rfl⟩
theorem rebE_ins (x y : Ed) : (rebE x y).ins.size ≤ x.ins.size := by
  unfold rebE
  split
  · split
    · exact Nat.le_refl _
    · split
      · exact Nat.le_refl _
      · exact Nat.zero_le _
  · exact Nat.zero_le _

set_option maxRecDepth 100000 in
set_option maxHeartbeats 1000000 in
theorem lawEdComm_any (s : ByteArray) (a b c d : Int) (t u : ByteArray) (w : World) (hs : s.size ≤ maxLen) (ht : t.size ≤ reachBytes) (hu : u.size ≤ reachBytes) :
    Calls Try.prog 9 #[.string s, .agg #[.int .i64 a, .int .i64 b, .string t], .agg #[.int .i64 c, .int .i64 d, .string u]] w fun e w' => e = .returned (.bool true) ∧ Below w.heap.size w w' := by
  obtain ⟨W0, hW0⟩ : ∃ W, W = (w.alloc (.cells #[.int .i64 a, .int .i64 b, .string t] 23)).alloc (.cells #[.int .i64 c, .int .i64 d, .string u] 23) := ⟨_, rfl⟩
  have hsW : W0.heap.size = w.heap.size + 1 + 1 := by rw [hW0]; simp
  have KA : Blk W0 w.heap.size 23 #[.int .i64 a, .int .i64 b, .string t] := by rw [hW0]; exact (Blk.new' _ _ _ rfl).alloc _
  have KB : Blk W0 (w.heap.size + 1) 23 #[.int .i64 c, .int .i64 d, .string u] := by rw [hW0]; exact Blk.new' _ _ _ (by simp)
  have hbW : Below w.heap.size w W0 := by rw [hW0]; exact ((Below.refl _ _).alloc (Nat.le_refl _) _).alloc (by simp) _
  have WAIT := Lib.hid hW0
  clear hW0
  go_enter Try.func9, Try.ntmps9
  go_wp2_with fail
  rw [← WAIT.out]
  refine (awake_any _).mono ?_
  rintro e w1 ⟨rfl, hb1⟩
  have A1 := KA.below hb1 (by omega)
  have B1 := KB.below hb1 (by omega)
  have hbb1 : Below w.heap.size w w1 := hbW.trans (hb1.mono (by omega))
  have hs1 := hb1.size
  have a0 := A1.cell 0
  have a1 := A1.cell 1
  have a2 := A1.cell 2
  have b0 := B1.cell 0
  have b1 := B1.cell 1
  have b2 := B1.cell 2
  simp at a0 a1 a2 b0 b1 b2
  clear hb1 KA KB hbW WAIT
  go_wp2_with fail
  have KL := Reads.of_blk (B := w1.heap.size + 1) (xs := eds [⟨a, b, t⟩, ⟨c, d, u⟩]) (n := 2) (size := 3) (Blk.new' w1 23 (eds [⟨a, b, t⟩, ⟨c, d, u⟩]).toArray rfl) (by omega) rfl rfl
  refine (few_any s (some ⟨w1.heap.size, 0, none⟩) 2 2 (w1.heap.size + 1) [⟨a, b, t⟩, ⟨c, d, u⟩] _ KL (by unfold maxLen; omega) hs (by simpa using ⟨ht, hu⟩)).mono ?_
  rintro e w2 ⟨bo, rfl, hok, hb2⟩
  have A2 := (A1.alloc (.cells (eds [⟨a, b, t⟩, ⟨c, d, u⟩]).toArray 23)).below hb2 (by simp; omega)
  have B2 := (B1.alloc (.cells (eds [⟨a, b, t⟩, ⟨c, d, u⟩]).toArray 23)).below hb2 (by simp; omega)
  have hbb2 : Below w.heap.size w w2 := (hbb1.alloc hbb1.size _).trans (hb2.mono (by simp; omega))
  have hs2 := hb2.size
  simp only [World.size_alloc] at hs2
  clear a0 a1 a2 b0 b1 b2 hb2 KL A1 B1
  cases bo with
  | false =>
    go_wp2_with fail
    go_ret
    exact ⟨rfl, hbb2⟩
  | true =>
  obtain ⟨q1, _, q3⟩ := hok rfl
  have q4 : t.size + u.size ≤ 400 := by simpa [sumIns] using q3
  clear hok q3
  have a0 := A2.cell 0
  have a1 := A2.cell 1
  have a2 := A2.cell 2
  have b0 := B2.cell 0
  have b1 := B2.cell 1
  have b2 := B2.cell 2
  simp at a0 a1 a2 b0 b1 b2
  cases hk : Ed.ok s.size ⟨a, b, t⟩ with
  | false =>
    have HK := Lib.hid hk
    clear hk
    go_wp2_with fail
    refine (refFits_any s a b t _ hs).mono ?_
    rw [HK.out]
    rintro e w3 ⟨rfl, hb3⟩
    go_wp2_with fail
    go_ret
    exact ⟨rfl, hbb2.trans (hb3.mono hbb2.size)⟩
  | true =>
  cases hj : Ed.ok s.size ⟨c, d, u⟩ with
  | false =>
    have HK := Lib.hid hk
    have HJ := Lib.hid hj
    clear hk hj
    go_wp2_with fail
    refine (refFits_any s a b t _ hs).mono ?_
    rw [HK.out]
    rintro e w3 ⟨rfl, hb3⟩
    have A3 := A2.below hb3 (by omega)
    have B3 := B2.below hb3 (by omega)
    have hbb3 : Below w.heap.size w w3 := hbb2.trans (hb3.mono hbb2.size)
    clear a0 a1 a2 b0 b1 b2
    have a0 := A3.cell 0
    have a1 := A3.cell 1
    have a2 := A3.cell 2
    have b0 := B3.cell 0
    have b1 := B3.cell 1
    have b2 := B3.cell 2
    simp at a0 a1 a2 b0 b1 b2
    go_wp2_with fail
    refine (refFits_any s c d u _ hs).mono ?_
    rw [HJ.out]
    rintro e w4 ⟨rfl, hb4⟩
    go_wp2_with fail
    go_ret
    exact ⟨rfl, hbb3.trans (hb4.mono hbb3.size)⟩
  | true =>
  have hcb : rebO ⟨a, b, t⟩ ⟨c, d, u⟩ = true → ¬ (b = 0 ∧ d = 0 ∧ a = c) → ∃ X, apAll s [⟨a, b, t⟩, rebE ⟨c, d, u⟩ ⟨a, b, t⟩] = (X, 0) ∧ apAll s [⟨c, d, u⟩, rebE ⟨a, b, t⟩ ⟨c, d, u⟩] = (X, 0) := fun h g => comm_both hk hj h g
  have hco := rebO_comm ⟨a, b, t⟩ ⟨c, d, u⟩
  have hz1 := rebE_ins ⟨a, b, t⟩ ⟨c, d, u⟩
  have hz2 := rebE_ins ⟨c, d, u⟩ ⟨a, b, t⟩
  obtain ⟨⟨rp, rd, rt⟩, hr⟩ : ∃ e, rebE ⟨a, b, t⟩ ⟨c, d, u⟩ = e := ⟨_, rfl⟩
  obtain ⟨⟨sp, sd, st⟩, hs'⟩ : ∃ e, rebE ⟨c, d, u⟩ ⟨a, b, t⟩ = e := ⟨_, rfl⟩
  rw [hr] at hcb hz1
  rw [hs'] at hcb hz2
  simp only at hz1 hz2
  have HK := Lib.hid hk
  have HJ := Lib.hid hj
  have HR := Lib.hid hr
  have HS := Lib.hid hs'
  have HCB := Lib.hid hcb
  have R : Blk W0 0 0 #[] ∨ True := Or.inr trivial
  clear hk hj hr hs' hcb R
  cases hO : rebO ⟨a, b, t⟩ ⟨c, d, u⟩ with
  | false =>
    have HO1 := Lib.hid hO
    rw [hO] at hco
    have HO2 := Lib.hid hco.symm
    clear hO hco
    go_wp2_with fail
    refine (refFits_any s a b t _ hs).mono ?_
    rw [HK.out]
    rintro e w3 ⟨rfl, hb3⟩
    have A3 := A2.below hb3 (by omega)
    have B3 := B2.below hb3 (by omega)
    have hbb3 : Below w.heap.size w w3 := hbb2.trans (hb3.mono hbb2.size)
    have hs3 := hb3.size
    clear a0 a1 a2 b0 b1 b2
    have a0 := A3.cell 0
    have a1 := A3.cell 1
    have a2 := A3.cell 2
    have b0 := B3.cell 0
    have b1 := B3.cell 1
    have b2 := B3.cell 2
    simp at a0 a1 a2 b0 b1 b2
    go_wp2_with fail
    refine (refFits_any s c d u _ hs).mono ?_
    rw [HJ.out]
    rintro e w4 ⟨rfl, hb4⟩
    have A4 := A3.below hb4 (by omega)
    have B4 := B3.below hb4 (by omega)
    have hbb4 : Below w.heap.size w w4 := hbb3.trans (hb4.mono hbb3.size)
    have hs4 := hb4.size
    clear a0 a1 a2 b0 b1 b2
    have a0 := A4.cell 0
    have a1 := A4.cell 1
    have a2 := A4.cell 2
    have b0 := B4.cell 0
    have b1 := B4.cell 1
    have b2 := B4.cell 2
    simp at a0 a1 a2 b0 b1 b2
    go_wp2_with fail
    refine (rebase_any a b c d t u _ (by omega)).mono ?_
    rw [HR.out, HO1.out]
    rintro e w5 ⟨rfl, hb5⟩
    have A5 := (A4.below hb5 (by omega)).alloc (.cells #[.int .i64 rp, .int .i64 rd, .string rt] 23)
    have B5 := (B4.below hb5 (by omega)).alloc (.cells #[.int .i64 rp, .int .i64 rd, .string rt] 23)
    have R5 := Blk.new' w5 23 #[.int .i64 rp, .int .i64 rd, .string rt] rfl
    have hbb5' : Below w.heap.size w w5 := hbb4.trans (hb5.mono hbb4.size)
    have hbb5 : Below w.heap.size w (w5.alloc (.cells #[.int .i64 rp, .int .i64 rd, .string rt] 23)) := hbb5'.alloc hbb5'.size _
    have hs5 := hb5.size
    clear a0 a1 a2 b0 b1 b2
    have a0 := A5.cell 0
    have a1 := A5.cell 1
    have a2 := A5.cell 2
    have b0 := B5.cell 0
    have b1 := B5.cell 1
    have b2 := B5.cell 2
    simp at a0 a1 a2 b0 b1 b2
    go_wp2_with fail
    refine (rebase_any c d a b u t _ (by omega)).mono ?_
    rw [HS.out, HO2.out]
    rintro e w6 ⟨rfl, hb6⟩
    have A6 := (A5.below hb6 (by simp; omega)).alloc (.cells #[.int .i64 sp, .int .i64 sd, .string st] 23)
    have B6 := (B5.below hb6 (by simp; omega)).alloc (.cells #[.int .i64 sp, .int .i64 sd, .string st] 23)
    have R6 := (R5.below hb6 (by simp)).alloc (.cells #[.int .i64 sp, .int .i64 sd, .string st] 23)
    have S6 := Blk.new' w6 23 #[.int .i64 sp, .int .i64 sd, .string st] rfl
    have hbb6' : Below w.heap.size w w6 := hbb5.trans (hb6.mono hbb5.size)
    have hbb6 : Below w.heap.size w (w6.alloc (.cells #[.int .i64 sp, .int .i64 sd, .string st] 23)) := hbb6'.alloc hbb6'.size _
    have hs6 := hb6.size
    simp only [World.size_alloc] at hs6
    clear a0 a1 a2 b0 b1 b2
    have a0 := A6.cell 0
    have a1 := A6.cell 1
    have a2 := A6.cell 2
    have b0 := B6.cell 0
    have b1 := B6.cell 1
    have b2 := B6.cell 2
    simp at a0 a1 a2 b0 b1 b2
    have r0 := R6.cell 0
    have r1 := R6.cell 1
    have r2 := R6.cell 2
    simp at r0 r1 r2
    go_wp2_with fail
    go_ret
    exact ⟨rfl, hbb6⟩
  | true =>
    have HO1 := Lib.hid hO
    rw [hO] at hco
    have HO2 := Lib.hid hco.symm
    clear hO hco
    by_cases hn : b = 0 ∧ d = 0 ∧ a = c
    · obtain ⟨n1, n2, n3⟩ := hn
      have e1 : (b == 0) = true := by simp [n1]
      have e2 : (d == 0) = true := by simp [n2]
      have e3 : (a == c) = true := by simp [n3]
      clear n1 n2 n3
      go_wp2_with fail
      refine (refFits_any s a b t _ hs).mono ?_
      rw [HK.out]
      rintro e w3 ⟨rfl, hb3⟩
      have A3 := A2.below hb3 (by omega)
      have B3 := B2.below hb3 (by omega)
      have hbb3 : Below w.heap.size w w3 := hbb2.trans (hb3.mono hbb2.size)
      have hs3 := hb3.size
      clear a0 a1 a2 b0 b1 b2
      have a0 := A3.cell 0
      have a1 := A3.cell 1
      have a2 := A3.cell 2
      have b0 := B3.cell 0
      have b1 := B3.cell 1
      have b2 := B3.cell 2
      simp at a0 a1 a2 b0 b1 b2
      go_wp2_with fail
      refine (refFits_any s c d u _ hs).mono ?_
      rw [HJ.out]
      rintro e w4 ⟨rfl, hb4⟩
      have A4 := A3.below hb4 (by omega)
      have B4 := B3.below hb4 (by omega)
      have hbb4 : Below w.heap.size w w4 := hbb3.trans (hb4.mono hbb3.size)
      have hs4 := hb4.size
      clear a0 a1 a2 b0 b1 b2
      have a0 := A4.cell 0
      have a1 := A4.cell 1
      have a2 := A4.cell 2
      have b0 := B4.cell 0
      have b1 := B4.cell 1
      have b2 := B4.cell 2
      simp at a0 a1 a2 b0 b1 b2
      go_wp2_with fail
      refine (rebase_any a b c d t u _ (by omega)).mono ?_
      rw [HR.out, HO1.out]
      rintro e w5 ⟨rfl, hb5⟩
      have A5 := (A4.below hb5 (by omega)).alloc (.cells #[.int .i64 rp, .int .i64 rd, .string rt] 23)
      have B5 := (B4.below hb5 (by omega)).alloc (.cells #[.int .i64 rp, .int .i64 rd, .string rt] 23)
      have R5 := Blk.new' w5 23 #[.int .i64 rp, .int .i64 rd, .string rt] rfl
      have hbb5' : Below w.heap.size w w5 := hbb4.trans (hb5.mono hbb4.size)
      have hbb5 : Below w.heap.size w (w5.alloc (.cells #[.int .i64 rp, .int .i64 rd, .string rt] 23)) := hbb5'.alloc hbb5'.size _
      have hs5 := hb5.size
      clear a0 a1 a2 b0 b1 b2
      have a0 := A5.cell 0
      have a1 := A5.cell 1
      have a2 := A5.cell 2
      have b0 := B5.cell 0
      have b1 := B5.cell 1
      have b2 := B5.cell 2
      simp at a0 a1 a2 b0 b1 b2
      go_wp2_with fail
      refine (rebase_any c d a b u t _ (by omega)).mono ?_
      rw [HS.out, HO2.out]
      rintro e w6 ⟨rfl, hb6⟩
      have A6 := (A5.below hb6 (by simp; omega)).alloc (.cells #[.int .i64 sp, .int .i64 sd, .string st] 23)
      have B6 := (B5.below hb6 (by simp; omega)).alloc (.cells #[.int .i64 sp, .int .i64 sd, .string st] 23)
      have R6 := (R5.below hb6 (by simp)).alloc (.cells #[.int .i64 sp, .int .i64 sd, .string st] 23)
      have S6 := Blk.new' w6 23 #[.int .i64 sp, .int .i64 sd, .string st] rfl
      have hbb6' : Below w.heap.size w w6 := hbb5.trans (hb6.mono hbb5.size)
      have hbb6 : Below w.heap.size w (w6.alloc (.cells #[.int .i64 sp, .int .i64 sd, .string st] 23)) := hbb6'.alloc hbb6'.size _
      have hs6 := hb6.size
      simp only [World.size_alloc] at hs6
      clear a0 a1 a2 b0 b1 b2
      have a0 := A6.cell 0
      have a1 := A6.cell 1
      have a2 := A6.cell 2
      have b0 := B6.cell 0
      have b1 := B6.cell 1
      have b2 := B6.cell 2
      simp at a0 a1 a2 b0 b1 b2
      have r0 := R6.cell 0
      have r1 := R6.cell 1
      have r2 := R6.cell 2
      simp at r0 r1 r2
      go_wp2_with fail
      go_ret
      exact ⟨rfl, hbb6⟩
    · obtain ⟨X, hX1, hX2⟩ := HCB.out HO1.out hn
      have HX1 := Lib.hid hX1
      have HX2 := Lib.hid hX2
      have hcase : (b == 0) = false ∨ ((b == 0) = true ∧ (d == 0) = false) ∨ ((b == 0) = true ∧ (d == 0) = true ∧ (a == c) = false) := by
        by_cases f1 : b = 0
        · by_cases f2 : d = 0
          · by_cases f3 : a = c
            · exact absurd ⟨f1, f2, f3⟩ hn
            · exact .inr (.inr ⟨by simp [f1], by simp [f2], by simp [f3]⟩)
          · exact .inr (.inl ⟨by simp [f1], by simp [f2]⟩)
        · exact .inl (by simp [f1])
      clear hX1 hX2 hn HCB
      rcases hcase with e1 | ⟨e1, e2⟩ | ⟨e1, e2, e3⟩
      all_goals
        go_wp2_with fail
        refine (refFits_any s a b t _ hs).mono ?_
        rw [HK.out]
        rintro e w3 ⟨rfl, hb3⟩
        have A3 := A2.below hb3 (by omega)
        have B3 := B2.below hb3 (by omega)
        have hbb3 : Below w.heap.size w w3 := hbb2.trans (hb3.mono hbb2.size)
        have hs3 := hb3.size
        clear a0 a1 a2 b0 b1 b2
        have a0 := A3.cell 0
        have a1 := A3.cell 1
        have a2 := A3.cell 2
        have b0 := B3.cell 0
        have b1 := B3.cell 1
        have b2 := B3.cell 2
        simp at a0 a1 a2 b0 b1 b2
        go_wp2_with fail
        refine (refFits_any s c d u _ hs).mono ?_
        rw [HJ.out]
        rintro e w4 ⟨rfl, hb4⟩
        have A4 := A3.below hb4 (by omega)
        have B4 := B3.below hb4 (by omega)
        have hbb4 : Below w.heap.size w w4 := hbb3.trans (hb4.mono hbb3.size)
        have hs4 := hb4.size
        clear a0 a1 a2 b0 b1 b2
        have a0 := A4.cell 0
        have a1 := A4.cell 1
        have a2 := A4.cell 2
        have b0 := B4.cell 0
        have b1 := B4.cell 1
        have b2 := B4.cell 2
        simp at a0 a1 a2 b0 b1 b2
        go_wp2_with fail
        refine (rebase_any a b c d t u _ (by omega)).mono ?_
        rw [HR.out, HO1.out]
        rintro e w5 ⟨rfl, hb5⟩
        have A5 := (A4.below hb5 (by omega)).alloc (.cells #[.int .i64 rp, .int .i64 rd, .string rt] 23)
        have B5 := (B4.below hb5 (by omega)).alloc (.cells #[.int .i64 rp, .int .i64 rd, .string rt] 23)
        have R5 := Blk.new' w5 23 #[.int .i64 rp, .int .i64 rd, .string rt] rfl
        have hbb5' : Below w.heap.size w w5 := hbb4.trans (hb5.mono hbb4.size)
        have hbb5 : Below w.heap.size w (w5.alloc (.cells #[.int .i64 rp, .int .i64 rd, .string rt] 23)) := hbb5'.alloc hbb5'.size _
        have hs5 := hb5.size
        clear a0 a1 a2 b0 b1 b2
        have a0 := A5.cell 0
        have a1 := A5.cell 1
        have a2 := A5.cell 2
        have b0 := B5.cell 0
        have b1 := B5.cell 1
        have b2 := B5.cell 2
        simp at a0 a1 a2 b0 b1 b2
        go_wp2_with fail
        refine (rebase_any c d a b u t _ (by omega)).mono ?_
        rw [HS.out, HO2.out]
        rintro e w6 ⟨rfl, hb6⟩
        have A6 := (A5.below hb6 (by simp; omega)).alloc (.cells #[.int .i64 sp, .int .i64 sd, .string st] 23)
        have B6 := (B5.below hb6 (by simp; omega)).alloc (.cells #[.int .i64 sp, .int .i64 sd, .string st] 23)
        have R6 := (R5.below hb6 (by simp)).alloc (.cells #[.int .i64 sp, .int .i64 sd, .string st] 23)
        have S6 := Blk.new' w6 23 #[.int .i64 sp, .int .i64 sd, .string st] rfl
        have hbb6' : Below w.heap.size w w6 := hbb5.trans (hb6.mono hbb5.size)
        have hbb6 : Below w.heap.size w (w6.alloc (.cells #[.int .i64 sp, .int .i64 sd, .string st] 23)) := hbb6'.alloc hbb6'.size _
        have hs6 := hb6.size
        simp only [World.size_alloc] at hs6
        clear a0 a1 a2 b0 b1 b2
        have a0 := A6.cell 0
        have a1 := A6.cell 1
        have a2 := A6.cell 2
        have b0 := B6.cell 0
        have b1 := B6.cell 1
        have b2 := B6.cell 2
        simp at a0 a1 a2 b0 b1 b2
        have r0 := R6.cell 0
        have r1 := R6.cell 1
        have r2 := R6.cell 2
        simp at r0 r1 r2
        go_wp2_with fail
        have L1 := Blk.new' (w6.alloc (.cells #[.int .i64 sp, .int .i64 sd, .string st] 23)) 23 (eds [⟨a, b, t⟩, ⟨sp, sd, st⟩]).toArray (g := w6.heap.size + 1) (by simp)
        have B7 := B6.alloc (.cells (eds [⟨a, b, t⟩, ⟨sp, sd, st⟩]).toArray 23)
        have R7 := R6.alloc (.cells (eds [⟨a, b, t⟩, ⟨sp, sd, st⟩]).toArray 23)
        have hbb7 := hbb6.alloc hbb6.size (.cells (eds [⟨a, b, t⟩, ⟨sp, sd, st⟩]).toArray 23)
        refine (applyAll_any s (some ⟨w6.heap.size + 1, 0, none⟩) 2 2 (w6.heap.size + 1 + 1) [⟨a, b, t⟩, ⟨sp, sd, st⟩] _ (Reads.of_blk L1 (by omega) rfl rfl) (by simp) (by unfold maxLen; omega) (by simp [sumIns]; omega)).mono ?_
        rw [HX1.out]
        rintro e w8 ⟨rfl, hb8⟩
        have B8 := B7.below hb8 (by simp; omega)
        have R8 := R7.below hb8 (by simp; omega)
        have hbb8 : Below w.heap.size w w8 := hbb7.trans (hb8.mono hbb7.size)
        clear a0 a1 a2 b0 b1 b2 r0 r1 r2
        have b0 := B8.cell 0
        have b1 := B8.cell 1
        have b2 := B8.cell 2
        have r0 := R8.cell 0
        have r1 := R8.cell 1
        have r2 := R8.cell 2
        simp at b0 b1 b2 r0 r1 r2
        go_wp2_with fail
        have L2 := Blk.new' w8 23 (eds [⟨c, d, u⟩, ⟨rp, rd, rt⟩]).toArray rfl
        refine (applyAll_any s (some ⟨w8.heap.size, 0, none⟩) 2 2 (w8.heap.size + 1) [⟨c, d, u⟩, ⟨rp, rd, rt⟩] _ (Reads.of_blk L2 (by omega) rfl rfl) (by simp) (by unfold maxLen; omega) (by simp [sumIns]; omega)).mono ?_
        rw [HX2.out]
        rintro e w9 ⟨rfl, hb9⟩
        go_wp2_with fail
        go_ret
        exact ⟨rfl, (hbb8.alloc hbb8.size _).trans (hb9.mono (by have := hbb8.size; simp; omega))⟩
end Go.Proofs.Ytocihnncfpmbnaa
