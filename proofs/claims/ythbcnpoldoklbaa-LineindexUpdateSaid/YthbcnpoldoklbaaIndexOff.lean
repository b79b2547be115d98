/- Offset and Line: what they return. -/
import Derived.Test.YthbcnpoldoklbaaIndexAt
namespace Go.Proofs.Ythbcnpoldoklbaa
open Go.RowKit

def offOk (s : ByteArray) (l c : Int) : Prop := (0 ≤ l ∧ l ≤ (starts s).length) ∧ (0 ≤ c ∧ c ≤ (spanT s l.toNat : Int) - spanF s l.toNat)
instance (s : ByteArray) (l c : Int) : Decidable (offOk s l c) := by unfold offOk; infer_instance
def offV (s : ByteArray) (l c : Int) : Int := if offOk s l c then (spanF s l.toNat : Int) + c else 0
def offE (s : ByteArray) (l c : Int) : Int := if offOk s l c then 0 else 2
theorem keep4 {w w' : World} {N : Nat} {x y z u : Value} (h0 : w.cell? ⟨N, 0, none⟩ = some x) (h1 : w.cell? ⟨N, 1, none⟩ = some y) (h2 : w.cell? ⟨N + 1, 0, none⟩ = some z) (h3 : w.cell? ⟨N + 1, 1, none⟩ = some u) (hb : Below (N + 1 + 1) w w') :
    w'.cell? ⟨N, 0, none⟩ = some x ∧ w'.cell? ⟨N, 1, none⟩ = some y ∧ w'.cell? ⟨N + 1, 0, none⟩ = some z ∧ w'.cell? ⟨N + 1, 1, none⟩ = some u ∧ Below (N + 1 + 1) w w' :=
  ⟨(hb.cell (p := ⟨N, 0, none⟩) (by show N < N + 1 + 1; omega)).trans h0, (hb.cell (p := ⟨N, 1, none⟩) (by show N < N + 1 + 1; omega)).trans h1, (hb.cell (p := ⟨N + 1, 0, none⟩) (Nat.lt_succ_self _)).trans h2, (hb.cell (p := ⟨N + 1, 1, none⟩) (Nat.lt_succ_self _)).trans h3, hb⟩

set_option maxHeartbeats 2000000 in
theorem offset_any (s : ByteArray) (A : Option Addr) (n c B : Nat) (l o : Int) (w : World) (hl : Reads w B 1 A n (nats (starts s))) (hB : B ≤ w.heap.size) (hn : n ≤ 1048577) (hs : s.size ≤ 1048577) :
    Calls Try.prog 13 #[.agg #[.string s, .slice A n c], .agg #[.int .i64 l, .int .i64 o]] w
      fun e w' => e = .returned (.tuple #[.int .i64 (offV s l o), .int .i64 (offE s l o)]) ∧ Below w.heap.size w w' := by
  have hln := hl.nats_len
  obtain ⟨W, hW⟩ : ∃ W, W = (w.alloc (.cells #[.string s, .slice A n c] 25)).alloc (.cells #[.int .i64 l, .int .i64 o] 28) := ⟨_, rfl⟩
  have hsW : W.heap.size = w.heap.size + 1 + 1 := by rw [hW]; simp
  have K2 : Blk W w.heap.size 25 #[.string s, .slice A n c] := by rw [hW]; exact (Blk.new' _ _ _ rfl).alloc _
  have K3 : Blk W (w.heap.size + 1) 28 #[.int .i64 l, .int .i64 o] := by rw [hW]; exact Blk.new' _ _ _ (by simp)
  have hb0 : Below w.heap.size w W := by rw [hW]; exact ((Below.refl _ _).alloc (Nat.le_refl _) _).alloc (by simp) _
  have HL := Lib.hid (show Reads W B 1 A n (nats (starts s)) from hl.below (hb0.mono hB))
  have WAIT := Lib.hid hW
  have a0 := K2.cell 0
  have a1 := K2.cell 1
  have a2 := K3.cell 0
  have a3 := K3.cell 1
  simp at a0 a1 a2 a3
  clear hW hl
  have R0 : ¬ offOk s l o → Hid (offV s l o = 0 ∧ offE s l o = 2) := fun h => by
    refine Lib.hid ?_
    unfold offV offE
    rw [if_neg h, if_neg h]
    exact ⟨rfl, rfl⟩
  by_cases h0 : l < 0
  · have R := R0 (fun h => by have := h.1.1; omega)
    have d0 : decide (l < 0) = true := by simp [h0]
    clear R0
    go_enter Try.func13, Try.ntmps13
    go_wp2_with fail
    rw [← WAIT.out]
    go_quiet (fail)
    go_wp2_with fail
    go_ret2
    exact ⟨by rw [R.out.1, R.out.2]; rfl, below_drewN hb0 _⟩
  have d0 : decide (l < 0) = false := by simp; omega
  by_cases h1 : (n : Int) + 1 ≤ l
  · have R := R0 (fun h => by have := h.1.2; omega)
    have d1 : decide ((n : Int) + 1 ≤ l) = true := by simp [h1]
    clear R0
    go_enter Try.func13, Try.ntmps13
    go_wp2_with fail
    rw [← WAIT.out]
    go_region_held3 (fun w' => w'.cell? ⟨w.heap.size, 0, none⟩ = some (.string s) ∧ w'.cell? ⟨w.heap.size, 1, none⟩ = some (.slice A n c) ∧ w'.cell? ⟨w.heap.size + 1, 0, none⟩ = some (.int .i64 l) ∧ w'.cell? ⟨w.heap.size + 1, 1, none⟩ = some (.int .i64 o) ∧ Below (w.heap.size + 1 + 1) W w')
      (first | exact keep4 a0 a1 a2 a3 ((Below.refl _ _).drew) | exact keep4 a0 a1 a2 a3 X3)
      (first | (go_at_call 19; refine (lines_any s A n c W.drew hn).mono ?_; rintro e w3 ⟨rfl, hb3⟩; have X3 : Below (w.heap.size + 1 + 1) W w3 := ((Below.refl _ W).drew).trans (hb3.mono (show w.heap.size + 1 + 1 ≤ W.heap.size by omega))))
    go_wp2_with fail
    go_ret2
    exact ⟨by rw [R.out.1, R.out.2]; rfl, hb0.trans (X3.mono (by omega))⟩
  have d1 : decide ((n : Int) + 1 ≤ l) = false := by simp; omega
  obtain ⟨k, rfl⟩ := Int.eq_ofNat_of_zero_le (Int.not_lt.1 h0)
  have hkn : k ≤ n := by omega
  have hsp := spanF_le s (k := k) (by omega)
  obtain ⟨f, hf⟩ : ∃ f, spanF s k = f := ⟨_, rfl⟩
  obtain ⟨t, ht⟩ : ∃ t, spanT s k = t := ⟨_, rfl⟩
  rw [hf, ht] at hsp
  have hiff : offOk s k o ↔ 0 ≤ o ∧ o ≤ (t : Int) - f := by
    unfold offOk
    rw [Int.toNat_natCast, hf, ht]
    exact ⟨fun h => h.2, fun h => ⟨⟨by omega, by omega⟩, h⟩⟩
  have HFT := Lib.hid (show spanF s k = f ∧ spanT s k = t from ⟨hf, ht⟩)
  have v0 : IntKind.i64.wrap ((t : Int) - f) = (t : Int) - f := IntWalk.i64_in _ (by omega)
  clear hf ht
  by_cases h2 : o < 0
  · have R := R0 (fun h => by have := (hiff.1 h).1; omega)
    have d2 : decide (o < 0) = true := by simp [h2]
    clear R0 hiff
    go_enter Try.func13, Try.ntmps13
    go_wp2_with fail
    rw [← WAIT.out]
    go_region_held3 (fun w' => w'.cell? ⟨w.heap.size, 0, none⟩ = some (.string s) ∧ w'.cell? ⟨w.heap.size, 1, none⟩ = some (.slice A n c) ∧ w'.cell? ⟨w.heap.size + 1, 0, none⟩ = some (.int .i64 k) ∧ w'.cell? ⟨w.heap.size + 1, 1, none⟩ = some (.int .i64 o) ∧ Below (w.heap.size + 1 + 1) W w')
      (first | exact keep4 a0 a1 a2 a3 ((Below.refl _ _).drew) | exact keep4 a0 a1 a2 a3 X3)
      (first | (go_at_call 19; refine (lines_any s A n c W.drew hn).mono ?_; rintro e w3 ⟨rfl, hb3⟩; have X3 : Below (w.heap.size + 1 + 1) W w3 := ((Below.refl _ W).drew).trans (hb3.mono (show w.heap.size + 1 + 1 ≤ W.heap.size by omega))))
    have hs3 := X3.size
    have J3 := K3.below X3 (by omega)
    go_wp2_with fail
    refine (span_any s A n c B k _ (HL.out.below (X3.mono (by omega))) (by omega) hn hs hkn).mono ?_
    rw [HFT.out.1, HFT.out.2]
    rintro e w4 ⟨rfl, hb4⟩
    have J4 := J3.below hb4 (by omega)
    have c2 := J4.cell 0
    have c3 := J4.cell 1
    simp at c2 c3
    have hbb : Below w.heap.size w w4 := (hb0.trans (X3.mono (by omega))).trans (hb4.mono (by omega))
    go_wp2_with fail
    go_ret2
    exact ⟨by rw [R.out.1, R.out.2]; rfl, hbb⟩
  have d2 : decide (o < 0) = false := by simp; omega
  by_cases h3 : (t : Int) - f < o
  · have R := R0 (fun h => by have := (hiff.1 h).2; omega)
    have d3 : decide ((t : Int) - f < o) = true := by simp [h3]
    clear R0 hiff
    go_enter Try.func13, Try.ntmps13
    go_wp2_with fail
    rw [← WAIT.out]
    go_region_held3 (fun w' => w'.cell? ⟨w.heap.size, 0, none⟩ = some (.string s) ∧ w'.cell? ⟨w.heap.size, 1, none⟩ = some (.slice A n c) ∧ w'.cell? ⟨w.heap.size + 1, 0, none⟩ = some (.int .i64 k) ∧ w'.cell? ⟨w.heap.size + 1, 1, none⟩ = some (.int .i64 o) ∧ Below (w.heap.size + 1 + 1) W w')
      (first | exact keep4 a0 a1 a2 a3 ((Below.refl _ _).drew) | exact keep4 a0 a1 a2 a3 X3)
      (first | (go_at_call 19; refine (lines_any s A n c W.drew hn).mono ?_; rintro e w3 ⟨rfl, hb3⟩; have X3 : Below (w.heap.size + 1 + 1) W w3 := ((Below.refl _ W).drew).trans (hb3.mono (show w.heap.size + 1 + 1 ≤ W.heap.size by omega))))
    have hs3 := X3.size
    have J3 := K3.below X3 (by omega)
    go_wp2_with fail
    refine (span_any s A n c B k _ (HL.out.below (X3.mono (by omega))) (by omega) hn hs hkn).mono ?_
    rw [HFT.out.1, HFT.out.2]
    rintro e w4 ⟨rfl, hb4⟩
    have J4 := J3.below hb4 (by omega)
    have c2 := J4.cell 0
    have c3 := J4.cell 1
    simp at c2 c3
    have hbb : Below w.heap.size w w4 := (hb0.trans (X3.mono (by omega))).trans (hb4.mono (by omega))
    go_wp2_with fail
    go_ret2
    exact ⟨by rw [R.out.1, R.out.2]; rfl, hbb⟩
  · have hok := hiff.2 ⟨by omega, by omega⟩
    have d3 : decide ((t : Int) - f < o) = false := by simp; omega
    have v1 : IntKind.i64.wrap ((f : Int) + o) = (f : Int) + o := IntWalk.i64_in _ (by omega)
    have R := Lib.hid (show offV s k o = (f : Int) + o ∧ offE s k o = 0 by unfold offV offE; rw [if_pos hok, if_pos hok, Int.toNat_natCast, HFT.out.1]; exact ⟨rfl, rfl⟩)
    clear R0 hiff hok
    go_enter Try.func13, Try.ntmps13
    go_wp2_with fail
    rw [← WAIT.out]
    go_region_held3 (fun w' => w'.cell? ⟨w.heap.size, 0, none⟩ = some (.string s) ∧ w'.cell? ⟨w.heap.size, 1, none⟩ = some (.slice A n c) ∧ w'.cell? ⟨w.heap.size + 1, 0, none⟩ = some (.int .i64 k) ∧ w'.cell? ⟨w.heap.size + 1, 1, none⟩ = some (.int .i64 o) ∧ Below (w.heap.size + 1 + 1) W w')
      (first | exact keep4 a0 a1 a2 a3 ((Below.refl _ _).drew) | exact keep4 a0 a1 a2 a3 X3)
      (first | (go_at_call 19; refine (lines_any s A n c W.drew hn).mono ?_; rintro e w3 ⟨rfl, hb3⟩; have X3 : Below (w.heap.size + 1 + 1) W w3 := ((Below.refl _ W).drew).trans (hb3.mono (show w.heap.size + 1 + 1 ≤ W.heap.size by omega))))
    have hs3 := X3.size
    have J3 := K3.below X3 (by omega)
    go_wp2_with fail
    refine (span_any s A n c B k _ (HL.out.below (X3.mono (by omega))) (by omega) hn hs hkn).mono ?_
    rw [HFT.out.1, HFT.out.2]
    rintro e w4 ⟨rfl, hb4⟩
    have J4 := J3.below hb4 (by omega)
    have c2 := J4.cell 0
    have c3 := J4.cell 1
    simp at c2 c3
    have hbb : Below w.heap.size w w4 := (hb0.trans (X3.mono (by omega))).trans (hb4.mono (by omega))
    go_wp2_with fail
    go_ret2
    exact ⟨by rw [R.out.1, R.out.2]; rfl, hbb⟩

/-- A line of the text, and whether there is one. -/
def lnOk (s : ByteArray) (k : Int) : Prop := 0 ≤ k ∧ k ≤ (starts s).length
instance (s : ByteArray) (k : Int) : Decidable (lnOk s k) := by unfold lnOk; infer_instance
def lnT (s : ByteArray) (k : Int) : ByteArray := if lnOk s k then s.extract (spanF s k.toNat) (spanT s k.toNat) else ⟨#[]⟩
def lnE (s : ByteArray) (k : Int) : Int := if lnOk s k then 0 else 2
set_option maxHeartbeats 1000000 in
theorem line_any (s : ByteArray) (A : Option Addr) (n c B : Nat) (l : Int) (w : World) (hl : Reads w B 1 A n (nats (starts s))) (hB : B ≤ w.heap.size) (hn : n ≤ 1048577) (hs : s.size ≤ 1048577) :
    Calls Try.prog 16 #[.agg #[.string s, .slice A n c], .int .i64 l] w
      fun e w' => e = .returned (.tuple #[.string (lnT s l), .int .i64 (lnE s l)]) ∧ Below w.heap.size w w' := by
  have hln := hl.nats_len
  obtain ⟨W, hW⟩ : ∃ W, W = w.alloc (.cells #[.string s, .slice A n c] 25) := ⟨_, rfl⟩
  have hsW : W.heap.size = w.heap.size + 1 := by rw [hW]; simp
  have K2 : Blk W w.heap.size 25 #[.string s, .slice A n c] := by rw [hW]; exact Blk.new' _ _ _ rfl
  have hb0 : Below w.heap.size w W := by rw [hW]; exact (Below.refl _ _).alloc (Nat.le_refl _) _
  have HL := Lib.hid (show Reads W B 1 A n (nats (starts s)) from hl.below (hb0.mono hB))
  have WAIT := Lib.hid hW
  have a0 := K2.cell 0
  have a1 := K2.cell 1
  simp at a0 a1
  clear hW hl
  have R0 : ¬ lnOk s l → Hid (lnT s l = ⟨#[]⟩ ∧ lnE s l = 2) := fun h => by
    refine Lib.hid ?_
    unfold lnT lnE
    rw [if_neg h, if_neg h]
    exact ⟨rfl, rfl⟩
  by_cases h0 : l < 0
  · have R := R0 (fun h => by have := h.1; omega)
    have d0 : decide (l < 0) = true := by simp [h0]
    clear R0
    go_enter Try.func16, Try.ntmps16
    go_wp2_with fail
    rw [← WAIT.out]
    go_wp2_with fail
    go_ret2
    exact ⟨by rw [R.out.1, R.out.2]; rfl, hb0⟩
  have d0 : decide (l < 0) = false := by simp; omega
  by_cases h1 : (n : Int) + 1 ≤ l
  · have R := R0 (fun h => by have := h.2; omega)
    have d1 : decide ((n : Int) + 1 ≤ l) = true := by simp [h1]
    clear R0
    go_enter Try.func16, Try.ntmps16
    go_wp2_with fail
    rw [← WAIT.out]
    refine (lines_any s A n c _ hn).mono ?_
    rintro e w1 ⟨rfl, hb1⟩
    go_wp2_with fail
    go_ret2
    exact ⟨by rw [R.out.1, R.out.2]; rfl, hb0.trans (hb1.mono (by omega))⟩
  have d1 : decide ((n : Int) + 1 ≤ l) = false := by simp; omega
  obtain ⟨k, rfl⟩ := Int.eq_ofNat_of_zero_le (Int.not_lt.1 h0)
  have hkn : k ≤ n := by omega
  have hsp := spanF_le s (k := k) (by omega)
  obtain ⟨f, hf⟩ : ∃ f, spanF s k = f := ⟨_, rfl⟩
  obtain ⟨t, ht⟩ : ∃ t, spanT s k = t := ⟨_, rfl⟩
  rw [hf, ht] at hsp
  obtain ⟨p1, p2⟩ := hsp
  have HFT := Lib.hid (show spanF s k = f ∧ spanT s k = t from ⟨hf, ht⟩)
  have hok : lnOk s k := ⟨by omega, by omega⟩
  have R := Lib.hid (show lnT s k = s.extract f t ∧ lnE s k = 0 by unfold lnT lnE; rw [if_pos hok, if_pos hok, Int.toNat_natCast, HFT.out.1, HFT.out.2]; exact ⟨rfl, rfl⟩)
  clear hf ht R0 hok
  go_enter Try.func16, Try.ntmps16
  go_wp2_with fail
  rw [← WAIT.out]
  refine (lines_any s A n c _ hn).mono ?_
  rintro e w1 ⟨rfl, hb1⟩
  have J1 := K2.below hb1 (by omega)
  have hs1 := hb1.size
  have c0 := J1.cell 0
  have c1 := J1.cell 1
  simp at c0 c1
  go_wp2_with fail
  refine (span_any s A n c B k _ (HL.out.below (hb1.mono (by omega))) (by omega) hn hs hkn).mono ?_
  rw [HFT.out.1, HFT.out.2]
  rintro e w2 ⟨rfl, hb2⟩
  have J2 := J1.below hb2 (by omega)
  have e0 := J2.cell 0
  have e1 := J2.cell 1
  simp at e0 e1
  clear a0 a1 c0 c1
  go_wp2_with fail
  go_ret2
  exact ⟨by rw [R.out.1, R.out.2]; rfl, (hb0.trans (hb1.mono (by omega))).trans (hb2.mono (by omega))⟩
end Go.Proofs.Ythbcnpoldoklbaa
