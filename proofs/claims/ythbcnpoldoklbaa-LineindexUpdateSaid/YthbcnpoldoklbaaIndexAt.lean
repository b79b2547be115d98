/- Position returns the line and the column of an offset. -/
import Derived.Test.YthbcnpoldoklbaaIndexPos
namespace Go.Proofs.Ythbcnpoldoklbaa
open Go.RowKit Go.Proofs Go.Shelf Go.Lib Go.Sort

def posL (s : ByteArray) (o : Int) : Int := if 0 ≤ o ∧ o ≤ s.size then (lineNo s o.toNat : Int) else 0
def posC (s : ByteArray) (o : Int) : Int := if 0 ≤ o ∧ o ≤ s.size then o - (lineAt s o.toNat : Int) else 0
def posE (s : ByteArray) (o : Int) : Int := if 0 ≤ o ∧ o ≤ s.size then 0 else 2
theorem results_pos {fn : Func} {p q : Tmp} (h : fn.results = #[.cell p 28, .tmp q]) {tmps : Array Value} {b o : Nat} (hp : tmps.getD p undef = .pointer (some ⟨b, o, none⟩)) {w : World} {i j : Int} {v : Value}
    (h0 : w.cell? ⟨b, o, none⟩ = some (.int .i64 i)) (h1 : w.cell? ⟨b, o + 1, none⟩ = some (.int .i64 j)) (hv : tmps.getD q undef = v) :
    (results fn tmps).run Try.prog w = .ok (.tuple #[.agg #[.int .i64 i, .int .i64 j], v]) w := by
  rw [results_cell_tmp h, hp, hv]
  simp [go_sem, asAddr, h0, h1]
theorem lineNo_le (s : ByteArray) {o : Nat} (h : o ≤ s.size) : lineNo s o ≤ (starts s).length := lineNo_mono s h

set_option maxHeartbeats 2000000 in
theorem position_any (s : ByteArray) (A : Option Addr) (n c B : Nat) (o : Int) (w : World) (hl : Reads w B 1 A n (nats (starts s))) (hB : B ≤ w.heap.size) (hn : n ≤ 1048577) (hs : s.size ≤ 1048577) :
    Calls Try.prog 12 #[.agg #[.string s, .slice A n c], .int .i64 o] w
      fun e w' => e = .returned (.tuple #[.agg #[.int .i64 (posL s o), .int .i64 (posC s o)], .int .i64 (posE s o)]) ∧ Below w.heap.size w w' := by
  have hmf : ∀ (fn : Fn) (first cap : Array Value) (w : World), (Instr.makeFunc fn first cap).run Try.prog w = .ok (.func fn first cap) w := fun _ _ _ _ => rfl
  have hln := hl.nats_len
  obtain ⟨W, hW⟩ : ∃ W, W = ((w.alloc (.cells #[.string s, .slice A n c] 25)).alloc (.cells #[.int .i64 o] 3)).alloc (.cells #[.int .i64 0, .int .i64 0] 28) := ⟨_, rfl⟩
  have hsW : W.heap.size = w.heap.size + 1 + 1 + 1 := by rw [hW]; simp
  have K2 : Blk W w.heap.size 25 #[.string s, .slice A n c] := by rw [hW]; exact ((Blk.new' _ _ _ rfl).alloc _).alloc _
  have K3 : Blk W (w.heap.size + 1) 3 #[.int .i64 o] := by rw [hW]; exact (Blk.new' _ _ _ (by simp)).alloc _
  have K4 : Blk W (w.heap.size + 1 + 1) 28 #[.int .i64 0, .int .i64 0] := by rw [hW]; exact Blk.new' _ _ _ (by simp)
  have hb0 : Below w.heap.size w W := by rw [hW]; exact (((Below.refl _ _).alloc (Nat.le_refl _) _).alloc (by simp) _).alloc (by simp; omega) _
  have hlW : Reads W B 1 A n (nats (starts s)) := hl.below (hb0.mono hB)
  have WAIT := Lib.hid hW
  have a0 := K2.cell 0
  have a1 := K2.cell 1
  have a2 := K3.cell 0
  have a3 := K4.cell 0
  have a4 := K4.cell 1
  have f3 := K4.frozen 0
  have f4 := K4.frozen 1
  simp at a0 a1 a2 a3 a4
  clear hW hl
  by_cases ho : 0 ≤ o ∧ o ≤ s.size
  case neg =>
    have R := Lib.hid (show posL s o = 0 ∧ posC s o = 0 ∧ posE s o = 2 by unfold posL posC posE; rw [if_neg ho, if_neg ho, if_neg ho]; exact ⟨rfl, rfl, rfl⟩)
    clear hlW
    by_cases h0 : o < 0
    · have d0 : decide (o < 0) = true := by simp [h0]
      go_enter Try.func12, Try.ntmps12
      go_wp2_with fail
      rw [← WAIT.out]
      go_wp2_with fail
      exact bodyPost_ret (results_pos rfl rfl (K4.cell 0) (K4.cell 1) rfl) rfl ⟨by rw [R.out.1, R.out.2.1, R.out.2.2]; rfl, hb0⟩
    · have d0 : decide (o < 0) = false := by simp; omega
      have d1 : decide ((s.size : Int) < o) = true := by simp; omega
      go_enter Try.func12, Try.ntmps12
      go_wp2_with fail
      rw [← WAIT.out]
      go_wp2_with fail
      exact bodyPost_ret (results_pos rfl rfl (K4.cell 0) (K4.cell 1) rfl) rfl ⟨by rw [R.out.1, R.out.2.1, R.out.2.2]; rfl, hb0⟩
  obtain ⟨o0, o1⟩ := ho
  obtain ⟨oN, rfl⟩ := Int.eq_ofNat_of_zero_le o0
  have hoN : oN ≤ s.size := by omega
  have R := Lib.hid (show posL s oN = (lineNo s oN : Int) ∧ posC s oN = (oN : Int) - lineAt s oN ∧ posE s oN = 0 by unfold posL posC posE; rw [if_pos ⟨o0, o1⟩, if_pos ⟨o0, o1⟩, if_pos ⟨o0, o1⟩, Int.toNat_natCast]; exact ⟨rfl, rfl, rfl⟩)
  have eg : ∀ args w, (callFunc 24 args).run Try.prog w = .ok (.enter 24 args) w := enters_of Try.func24 (by kernel_rfl) rfl
  have hS := Any.sort_Search Try.search 24 #[.pointer (some ⟨w.heap.size, 0, none⟩), .pointer (some ⟨w.heap.size + 1, 0, none⟩)] n (fun i => decide (oN < (starts s)[i]?.getD 0)) W eg (by omega)
    (fun m os i hi => by
      have hx := List.getElem?_eq_getElem (l := starts s) (i := i) (by omega)
      obtain ⟨b, off, rfl, hb, hc⟩ := hlW.nat_at hx
      refine (closure_any w.heap.size (w.heap.size + 1) b off n c i _ oN _ hi (cell_grown (by show w.heap.size < W.heap.size; omega) a1 m os) (cell_grown (by show w.heap.size + 1 < W.heap.size; omega) a2 m os) (cell_grown (by show b < W.heap.size; omega) hc m os)).mono ?_
      rintro e w' ⟨he, q, hq⟩
      refine ⟨?_, q, #[], by rw [hq, grow_empty]⟩
      rw [he, hx]
      simp)
    (fun a b hab hb h => by
      have ha := List.getElem?_eq_getElem (l := starts s) (i := a) (by omega)
      have hb' := List.getElem?_eq_getElem (l := starts s) (i := b) (by omega)
      simp only [ha, hb', Option.getD_some, decide_eq_true_eq] at h ⊢
      rcases Nat.lt_or_ge a b with h1 | h1
      · have := starts_lt h1 ha hb'; omega
      · have : a = b := by omega
        subst this
        exact h)
  rw [count_below n (lineNo s oN) (by rw [← hln]; exact lineNo_le s hoN) _ (fun i hi => by
    have hx := List.getElem?_eq_getElem (l := starts s) (i := i) (by omega)
    simp only [hx, Option.getD_some, decide_eq_true_eq]
    exact starts_below s hoN hx)] at hS
  change Calls Try.prog 23 _ _ _ at hS
  have HS := Lib.hid hS
  have HLW := Lib.hid hlW
  have hlo := lineNo_le s hoN
  have hla := lineAt_le s oN
  have HF := Lib.hid (spanF_line s hoN)
  have d0 : decide ((oN : Int) < 0) = false := by simp
  have d1 : decide ((s.size : Int) < (oN : Int)) = false := by simp; omega
  have d2 : decide (s.size < oN) = false := by simp; omega
  have v : IntKind.i64.wrap ((oN : Int) - lineAt s oN) = (oN : Int) - lineAt s oN := IntWalk.i64_in _ (by omega)
  clear hS hlW eg
  go_enter Try.func12, Try.ntmps12
  go_wp2_with fail
  rw [← WAIT.out]
  go_wp2_with fail
  refine HS.out.mono ?_
  rintro e w1 ⟨rfl, q, os, rfl⟩
  have hb1 : Below W.heap.size W (grow (W.drewN q) os) := below_grown_sl W.heap.size W q os (Nat.le_refl _)
  obtain ⟨w1, hw1⟩ : ∃ w1, grow (W.drewN q) os = w1 := ⟨_, rfl⟩
  rw [hw1] at hb1 ⊢
  clear hw1 HS
  have J2 := K2.below hb1 (by omega)
  have J3 := K3.below hb1 (by omega)
  have J4 := K4.below hb1 (by omega)
  have hs1 := hb1.size
  have c0 := J2.cell 0
  have c1 := J2.cell 1
  simp at c0 c1
  go_wp2_with fail
  refine (span_any s A n c B (lineNo s oN) _ (HLW.out.below (hb1.mono (by omega))) (by omega) hn hs (by omega)).mono ?_
  rw [HF.out]
  rintro e w2 ⟨rfl, hb2⟩
  have L3 := J3.below hb2 (by omega)
  have L4 := J4.below hb2 (by omega)
  have hbb : Below w.heap.size w w2 := (hb0.trans (hb1.mono (by omega))).trans (hb2.mono (by omega))
  have e0 := L3.cell 0
  have e3 := L4.cell 0
  have e4 := L4.cell 1
  have g3 := L4.frozen 0
  have g4 := L4.frozen 1
  simp at e0 e3 e4
  clear a0 a1 a2 a3 a4 f3 f4 c0 c1
  go_wp2_with fail
  have r1 := L4.set2 (.int .i64 (lineNo s oN)) (.int .i64 ((oN : Int) - lineAt s oN))
  refine bodyPost_ret (results_pos rfl rfl (r1.cell 0) (r1.cell 1) rfl) rfl ⟨by rw [R.out.1, R.out.2.1, R.out.2.2]; rfl, ?_⟩
  exact (hbb.setCell (by simp; omega) _).setCell (by simp; omega) _
end Go.Proofs.Ythbcnpoldoklbaa
