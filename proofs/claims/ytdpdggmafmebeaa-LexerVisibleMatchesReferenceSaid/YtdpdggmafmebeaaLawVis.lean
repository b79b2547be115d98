/- LexerVisibleMatchesReference returns true for every specification and list of tokens whose texts are within the form's reach. -/
import Derived.Test.YtdpdggmafmebeaaVisible
import Derived.Test.YtdpdggmafmebeaaAwake
import Derived.Test.YtdpdggmafmebeaaChain
namespace Go.Proofs.Ytdpdggmafmebeaa
open Go.RowKit

theorem textFrom_len (l : List Tok) : ∀ s : ByteArray, (textFrom s l).size = s.size + (l.map fun t => t.text.size).sum := by
  induction l with
  | nil => intro s; simp [textFrom]
  | cons t l ih =>
    intro s
    have := ih (s ++ t.text)
    simp only [textFrom, List.foldl_cons, ByteArray.size_append, List.map_cons, List.sum_cons] at *
    omega
theorem textL_len (l : List Tok) : (textL l).size = offs l l.length := by
  unfold textL
  rw [textFrom_len, offs, List.take_length]
  simp

set_option maxRecDepth 100000 in
set_option maxHeartbeats 1000000 in
theorem lawVis_any (Ad : Option Addr) (nd cd : Nat) (ly : Bool) (ms uc : Int) (ks : List Int) (A : Option Addr) (n c : Nat) (l : List Tok) (w : World) (hk : Kinds w w.heap.size Ad nd ks) (hl : Reads w w.heap.size 4 A n (toks l)) (hnd : nd ≤ maxLen) (hn : n ≤ maxLen) (ht : ∀ t ∈ l, t.text.size ≤ reachBytes) :
    Calls Try.prog 9 #[.agg #[.slice Ad nd cd, .bool ly, .int .i64 ms, .int .i64 uc], .slice A n c] w fun e w' => e = .returned (.bool true) ∧ Below w.heap.size w w' := by
  have HL := Lib.hid hl
  have HK := Lib.hid hk
  have HT := Lib.hid ht
  have hln := hl.len_toks
  have HLN := Lib.hid hln
  have K := Blk.new' w 39 #[.slice Ad nd cd, .bool ly, .int .i64 ms, .int .i64 uc] rfl
  have hb0 : Below w.heap.size w (w.alloc (.cells #[.slice Ad nd cd, .bool ly, .int .i64 ms, .int .i64 uc] 39)) := (Below.refl _ _).alloc (Nat.le_refl _) _
  unfold maxLen at hnd hn
  clear hk hl ht hln
  go_enter Try.func9, Try.ntmps9
  go_wp2_with fail
  refine (awake_any _).mono ?_
  rintro e w1 ⟨rfl, hb1⟩
  simp only [World.size_alloc] at hb1
  have K1 := K.below hb1 (by omega)
  have hs1 := hb1.size
  simp only [World.size_alloc] at hs1
  have hbb : Below w.heap.size w w1 := hb0.trans (hb1.mono (by omega))
  have g0 := K1.cell 0
  have g1 := K1.cell 1
  have g2 := K1.cell 2
  have g3 := K1.cell 3
  simp at g0 g1 g2 g3
  clear hb0 K hb1
  by_cases h1 : nd ≤ 60
  case neg =>
    have f1 : decide ((60 : Int) < nd) = true := by simp; omega
    go_wp2_with fail
    go_ret
    exact ⟨rfl, hbb⟩
  by_cases h2 : n ≤ 60
  case neg =>
    have f1 : decide ((60 : Int) < nd) = false := by simp; omega
    have f2 : decide ((60 : Int) < n) = true := by simp; omega
    go_wp2_with fail
    go_ret
    exact ⟨rfl, hbb⟩
  have f1 : decide ((60 : Int) < nd) = false := by simp; omega
  have f2 : decide ((60 : Int) < n) = false := by simp; omega
  go_wp2_with fail
  go_loop [5, 6] (fun a b => ∃ i : Nat, i ≤ n ∧ a = .int .i64 (offs l i) ∧ b = .int .i64 i ∧ offs l i ≤ 2000) (fun _ b => n - (intOf b).toNat)
  case atStart => exact ⟨0, by omega, by rw [offs_zero]; rfl, rfl, by rw [offs_zero]; omega⟩
  case round =>
    obtain ⟨i, hi, rfl, rfl, hof⟩ := hrel
    by_cases hlt : i < n
    · obtain ⟨b, off, t, rfl, hbl, hx, k0, k1, k2, k3⟩ := (HL.out.below hbb).tok_at hlt
      have HO := Lib.hid (offs_succ l i t hx)
      have htr : t.text.size ≤ 140737488351232 := HT.out t (List.mem_of_getElem? hx)
      generalize offs l i = o at *
      clear hx
      by_cases hbig : o + t.text.size ≤ 2000
      · have e1 : ¬ (2000 : Int) < (o : Int) + (t.text.size : Int) := by omega
        go_wp2_with fail
        go_round
        case rel => exact ⟨i + 1, by omega, by rw [HO.out]; go_num, by go_num, by rw [HO.out]; exact hbig⟩
        case measure => simp [intOf]; omega
      · have e1 : (2000 : Int) < (o : Int) + (t.text.size : Int) := by omega
        go_wp2_with fail
        go_ret
        exact ⟨rfl, hbb⟩
    · have hil : i = n := by omega
      have hsz : (textL l).size ≤ 9223372036854775807 := by
        rw [textL_len, HLN.out, ← hil]; omega
      have HSZ := Lib.hid hsz
      clear hsz hil hof
      have e1 : sameT (visL ks l) (visL ks l) = true := sameT_iff.2 rfl
      have e2 : (textL l).toList == (textL l).toList := by simp
      have hvl := visL_len ks l
      have HV := Lib.hid (visL_vis ks l)
      have hln60 : (visL ks l).length ≤ 60 := by have := HLN.out; omega
      go_wp2_with fail
      have hs1' : w.heap.size ≤ w1.heap.size := by omega
      refine (visible_any Ad nd cd ly ms uc ks A n c w.heap.size l w1 (HK.out.below hbb) (HL.out.below hbb) hs1' h1 h2).mono ?_
      rintro e w2 ⟨A2, c2, rfl, _, _, r2, hb2⟩
      have hs2 := hb2.size
      have K2 := K1.below hb2 (by omega)
      have g0 := K2.cell 0
      have g1 := K2.cell 1
      have g2 := K2.cell 2
      have g3 := K2.cell 3
      simp at g0 g1 g2 g3
      have hb02 : Below w.heap.size w w2 := hbb.trans (hb2.mono hs1')
      go_wp2_with fail
      refine (refVisible_any Ad nd cd ly ms uc ks A n c w.heap.size l w2 (HK.out.below hb02) (HL.out.below hb02) (by omega) h1 h2).mono ?_
      rintro e w3 ⟨A3, c3, rfl, _, _, r3, hb3⟩
      have hs3 := hb3.size
      have K3 := K2.below hb3 (by omega)
      have g0 := K3.cell 0
      have g1 := K3.cell 1
      have g2 := K3.cell 2
      have g3 := K3.cell 3
      simp at g0 g1 g2 g3
      have hb03 : Below w.heap.size w w3 := hb02.trans (hb3.mono (by omega))
      go_wp2_with fail
      refine (same_any A2 A3 _ _ c2 c3 _ _ (visL ks l) (visL ks l) w3 (r2.below hb3) r3 (by unfold maxLen; omega) (by unfold maxLen; omega)).mono ?_
      rintro e w4 ⟨rfl, n4, rfl⟩
      rw [e1]
      go_wp2_with fail
      refine (visible_any Ad nd cd ly ms uc ks A2 _ c2 w2.heap.size (visL ks l) (w3.drewN n4) (((HK.out.below hb03).more (B' := w2.heap.size) (by omega)).keep fun _ _ => rfl) ((r2.below hb3).drewN n4) (by simp [size_drewN]; omega) h1 hln60).mono ?_
      rw [HV.out]
      rintro e w5 ⟨A5, c5, rfl, _, _, r5, hb5⟩
      have hs5 : w3.heap.size ≤ w5.heap.size := hb5.size
      have hb35 : Below w3.heap.size w3 w5 := below_from_drewN (n := n4) hb5
      have hb05 : Below w.heap.size w w5 := hb03.trans (hb35.mono (by omega))
      go_wp2_with fail
      refine (same_any A5 A2 _ _ c5 c2 _ _ (visL ks l) (visL ks l) w5 r5 ((r2.below hb3).below (hb35.mono (by omega))) (by unfold maxLen; omega) (by unfold maxLen; omega)).mono ?_
      rintro e w6 ⟨rfl, n6, rfl⟩
      rw [e1]
      go_wp2_with fail
      refine (text_any A n c w.heap.size l (w5.drewN n6) ((HL.out.below hb05).drewN n6) (by simp [size_drewN]; omega) (by unfold maxLen; omega) HSZ.out).mono ?_
      rintro e w7 ⟨rfl, hb7⟩
      have hb57 : Below w5.heap.size w5 w7 := below_from_drewN (n := n6) hb7
      have hb07 : Below w.heap.size w w7 := hb05.trans (hb57.mono (by omega))
      go_wp2_with fail
      refine (refText_any A n c w.heap.size l w7 (HL.out.below hb07) (by unfold maxLen; omega) HSZ.out).mono ?_
      rintro e w8 ⟨rfl, rfl⟩
      go_wp2_with fail
      go_ret
      exact ⟨ret_bool (by simp), hb07⟩
end Go.Proofs.Ytdpdggmafmebeaa
