/- LexerCoversText returns true for every automaton and text. -/
import Derived.Test.YtdpdggmafmebeaaLawLex
import Derived.Test.YtdpdggmafmebeaaChain
namespace Go.Proofs.Ytdpdggmafmebeaa
open Go.RowKit

set_option maxRecDepth 100000 in
set_option maxHeartbeats 1000000 in
theorem lawCovers_any (v : DfaV) (d : Dfa) (B : Nat) (s : ByteArray) (w : World) (hd : DfaAt w B v d) (hB : B ≤ w.heap.size) (hs : s.size ≤ maxLen) :
    Calls Try.prog 4 #[.agg #[.slice v.Ac v.nc v.cc, .slice v.An v.nn v.cn, .slice v.Aa v.na v.ca], .string s] w fun e w' => e = .returned (.bool true) ∧ Below w.heap.size w w' := by
  have HD := Lib.hid ((hd.more hB).alloc (Nat.le_refl _) (.cells v.cells 25))
  have K := Blk.new' w 25 v.cells rfl
  have hb0 : Below w.heap.size w (w.alloc (.cells v.cells 25)) := (Below.refl _ _).alloc (Nat.le_refl _) _
  clear hd
  go_enter Try.func4, Try.ntmps4
  go_wp2_with fail
  refine (awake_any _).mono ?_
  rintro e w1 ⟨rfl, hb1⟩
  simp only [World.size_alloc] at hb1
  have K1 := K.below hb1 (by omega)
  have hs1 := hb1.size
  have HD1 := Lib.hid (HD.out.below (hb1.mono (by omega)))
  simp only [World.size_alloc] at hs1
  have g0 := K1.cell 0
  have g1 := K1.cell 1
  have g2 := K1.cell 2
  simp [DfaV.cells] at g0 g1 g2
  go_wp2_with fail
  refine (light_any v d w.heap.size s w1 HD1.out (by omega) hs).mono ?_
  rintro e w2 ⟨b, rfl, hok, hb2⟩
  have hbb : Below w.heap.size w w2 := (hb0.trans (hb1.mono (by omega))).trans (hb2.mono (by omega))
  have hs2 := hb2.size
  clear hb0 K HD
  cases b with
  | false =>
    go_wp2_with fail
    go_ret
    exact ⟨rfl, hbb⟩
  | true =>
    obtain ⟨⟨k, ho⟩, hn60, hs60⟩ := hok rfl
    obtain ⟨q0, q1, q2⟩ := cells3 (w' := w2) ⟨g0, g1, g2⟩ (hb2.mono (by omega)) (Nat.lt_succ_self _)
    have HD2 := Lib.hid (HD1.out.below (hb2.mono (by omega)))
    have hsL := hbb.size
    clear g0 g1 g2 hok HD1 K1
    have hl := textL_lexL d s
    have HT := Lib.hid hl
    have hce := chain_end d s _ 0 (chain_lexL d s)
    rw [Nat.zero_add] at hce
    have HE := Lib.hid hce
    clear hl hce
    go_wp2_with fail
    refine (lex_any v d k w.heap.size s w2 HD2.out (by omega) ho (by omega)).mono ?_
    rintro e w3 ⟨A, c, rfl, hc1, hc2, hr, hb3⟩
    have hs3 := hb3.size
    have hL3 : Below w.heap.size w w3 := hbb.trans (hb3.mono (by omega))
    clear hb3
    unfold maxLen at hc2
    have hmn : (lexL d s).length ≤ 9223372036854775807 := by omega
    go_wp2_with fail
    go_loopw [6, 7] (fun a b wr => ∃ i : Nat, i ≤ (lexL d s).length ∧ a = .int .i64 (offs (lexL d s) i) ∧ b = .int .i64 i ∧ offs (lexL d s) i ≤ s.size ∧ ∃ nd, wr = w3.drewN nd) (fun _ b _ => (lexL d s).length - (intOf b).toNat)
    case atStart => exact ⟨0, by omega, by rw [offs_zero]; rfl, rfl, by rw [offs_zero]; omega, 0, rfl⟩
    case round =>
      obtain ⟨i, hi, rfl, rfl, hof, nd, rfl⟩ := hrel
      by_cases hlt : i < (lexL d s).length
      · obtain ⟨b, off, t, rfl, _, ht, h0, h1, h2, h3⟩ := hr.tok_at hlt
        have hca := chain_at d s _ 0 i t (chain_lexL d s) ht
        rw [Nat.zero_add] at hca
        obtain ⟨hos, hte⟩ := hca
        have hbd := tokAt_bd d s _ hos
        have hlk := tokAt_look d s _ hos
        rw [← hte] at hbd hlk
        have hpos : t.pos = (offs (lexL d s) i : Nat) := by rw [hte]; rfl
        have hsucc := offs_succ _ i t ht
        have HO := Lib.hid hsucc
        obtain ⟨tk, tp, tt, tl⟩ := t
        simp only at h0 h1 h2 h3 hbd hlk hpos hsucc
        subst hpos
        generalize offs (lexL d s) i = o at *
        generalize (lexL d s).length = n at *
        have e2 : tt.toList = [] ↔ False := by
          constructor
          · intro h
            have : tt.size = 0 := by
              rw [ByteArray.toList_eq] at h
              have := congrArg List.length h
              simpa using this
            omega
          · exact False.elim
        have e2b : tt.toList.isEmpty = false := by
          cases h : tt.toList with
          | nil => exact (e2.1 h).elim
          | cons a l => rfl
        have E2 := Lib.hid e2
        have w1 : IntKind.i64.wrap ((s.size : Int) - (o : Int)) = (s.size : Int) - o := IntWalk.i64_in _ (by omega)
        have w2' : IntKind.i64.wrap ((s.size : Int) - (o : Int) + 1) = (s.size : Int) - o + 1 := IntWalk.i64_in _ (by omega)
        have f1 : decide (tl < (tt.size : Int)) = false := by simp; omega
        have f2 : decide ((s.size : Int) - o + 1 < tl) = false := by simp; omega
        have f3 : ((o : Int) != (o : Int)) = false := by simp
        clear e2 hte hsucc ht
        go_wp2_with fail
        go_quiet (fail)
        clear w1 w2' f1 f2 f3 e2b
        go_wp2_with fail
        go_roundw
        case rel => exact ⟨i + 1, by omega, by rw [HO.out]; go_num, by go_num, by rw [HO.out]; omega, drew1 _ _⟩
        case measure => simp [intOf]; omega
      · have hil : i = (lexL d s).length := by omega
        have e1 : offs (lexL d s) i = s.size := by rw [hil]; exact HE.out
        rw [e1]
        have f1 : ((s.size : Int) == (s.size : Int)) = true := by simp
        have f2 : (s.toList == s.toList) = true := by simp
        have hsT : (textL (lexL d s)).size ≤ 9223372036854775807 := by rw [HT.out]; omega
        clear e1 hil
        go_wp2_with (go_at_call 15; refine (text_any A _ c _ (lexL d s) _ (hr.drewN nd) (Nat.le_refl _) (by unfold maxLen; omega) hsT).mono ?_; rintro e w4 ⟨rfl, hb4⟩; rw [HT.out])
        go_ret
        exact ⟨rfl, hL3.trans ((below_from_drewN hb4).mono (show w.heap.size ≤ w3.heap.size by omega))⟩

end Go.Proofs.Ytdpdggmafmebeaa
