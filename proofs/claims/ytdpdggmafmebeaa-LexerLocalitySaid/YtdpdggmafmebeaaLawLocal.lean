/- LexerLocality returns true for every automaton and texts. -/
import Derived.Test.YtdpdggmafmebeaaLawLex
import Derived.Test.YtdpdggmafmebeaaAgree
namespace Go.Proofs.Ytdpdggmafmebeaa
open Go.RowKit

set_option maxRecDepth 100000 in
set_option maxHeartbeats 1000000 in
theorem lawLocal_any (v : DfaV) (d : Dfa) (B : Nat) (s : ByteArray) (t : ByteArray) (w : World) (hd : DfaAt w B v d) (hB : B ≤ w.heap.size) (hs : s.size ≤ maxLen) (ht : t.size ≤ maxLen) :
    Calls Try.prog 6 #[.agg #[.slice v.Ac v.nc v.cc, .slice v.An v.nn v.cn, .slice v.Aa v.na v.ca], .string s, .string t] w fun e w' => e = .returned (.bool true) ∧ Below w.heap.size w w' := by
  have HD := Lib.hid ((hd.more hB).alloc (Nat.le_refl _) (.cells v.cells 25))
  have K := Blk.new' w 25 v.cells rfl
  have hb0 : Below w.heap.size w (w.alloc (.cells v.cells 25)) := (Below.refl _ _).alloc (Nat.le_refl _) _
  clear hd
  go_enter Try.func6, Try.ntmps6
  go_wp2_with fail
  refine (awake_any _).mono ?_
  rintro e w1 ⟨rfl, hb1⟩
  simp only [World.size_alloc] at hb1
  have K1 := K.below hb1 (by omega)
  have hs1 := hb1.size
  have HD1 := Lib.hid (HD.out.below (hb1.mono (by omega)))
  simp only [World.size_alloc] at hs1
  have g0 := K1.cell 0
  have g1 := K1.cell 1
  have g2 := K1.cell 2
  simp [DfaV.cells] at g0 g1 g2
  go_wp2_with fail
  refine (light_any v d w.heap.size s w1 HD1.out (by omega) hs).mono ?_
  rintro e w2 ⟨b, rfl, hok, hb2⟩
  have hbb : Below w.heap.size w w2 := (hb0.trans (hb1.mono (by omega))).trans (hb2.mono (by omega))
  have hs2 := hb2.size
  clear hb0 K HD
  cases b with
  | false =>
    go_wp2_with fail
    go_ret
    exact ⟨rfl, hbb⟩
  | true =>
    obtain ⟨⟨k, ho⟩, hn60, hs60⟩ := hok rfl
    obtain ⟨q0, q1, q2⟩ := cells3 (w' := w2) ⟨g0, g1, g2⟩ (hb2.mono (by omega)) (Nat.lt_succ_self _)
    have HD2 := Lib.hid (HD1.out.below (hb2.mono (by omega)))
    have hsL := hbb.size
    clear g0 g1 g2 hok HD1 K1
    by_cases ht30 : t.size ≤ 30
    case neg =>
      have f0 : (30 : Int) < (t.size : Int) := by omega
      go_wp2_with fail
      go_ret
      exact ⟨rfl, hbb⟩
    have f0 : ¬ (30 : Int) < (t.size : Int) := by omega
    go_wp2_with fail
    refine (lex_any v d k w.heap.size s w2 HD2.out (by omega) ho (by omega)).mono ?_
    rintro e w3 ⟨A, c, rfl, hc1, hc2, hr, hb3⟩
    have hs3 := hb3.size
    have hL3 : Below w.heap.size w w3 := hbb.trans (hb3.mono (by omega))
    have C3 := cells3 (w' := w3) ⟨q0, q1, q2⟩ hb3 (by omega)
    have HD3 := Lib.hid (HD2.out.below (hb3.mono (by omega)))
    have HR := Lib.hid hr
    clear hb3 q0 q1 q2 HD2 hr
    unfold maxLen at hc2
    have hmn : (lexL d s).length ≤ 9223372036854775807 := by omega
    obtain ⟨n, hn⟩ : ∃ n, n = (lexL d s).length := ⟨_, rfl⟩
    rw [← hn] at hmn hc1 HR ⊢
    clear hn
    go_wp2_with fail
    go_loopw [8] (fun b wr => ∃ i : Nat, i ≤ n ∧ b = .int .i64 i ∧ Below w3.heap.size w3 wr) (fun b _ => n - (intOf b).toNat)
    case atStart => exact ⟨0, by omega, rfl, Below.refl _ _⟩
    case round =>
      obtain ⟨i, hi, rfl, hbr⟩ := hrel
      have hsr := hbr.size
      by_cases hlt : i < n
      · obtain ⟨b, off, x, rfl, hbl, hx, h0, h1, h2, h3⟩ := (HR.out.below hbr).tok_at hlt
        have hca := chain_at d s _ 0 i x (chain_lexL d s) hx
        rw [Nat.zero_add] at hca
        generalize offs (lexL d s) i = o at hca
        obtain ⟨hos, hxe⟩ := hca
        have hlk := tokAt_look d s _ hos
        have hloc := lexL_local d s t o hos
        rw [← hxe] at hlk hloc
        have hpos : x.pos = (o : Nat) := by rw [hxe]; rfl
        obtain ⟨L, hL, hLl⟩ : ∃ L : Nat, (scan0 d s o).2.2 = L ∧ x.look = (L : Nat) := ⟨_, rfl, by rw [hxe]; rfl⟩
        rw [hL] at hloc
        have HLO := Lib.hid hloc
        clear hxe hx hloc hL
        obtain ⟨xk, xp, xt, xl⟩ := x
        simp only at h0 h1 h2 h3 hlk hpos hLl
        subst hpos; subst hLl
        have c0 := (hbr.cell (p := ⟨w.heap.size, 0, none⟩) (by simp; omega)).trans C3.1
        have c1 := (hbr.cell (p := ⟨w.heap.size, 1, none⟩) (by simp; omega)).trans C3.2.1
        have c2 := (hbr.cell (p := ⟨w.heap.size, 2, none⟩) (by simp; omega)).trans C3.2.2
        have hne := Nat.ne_of_lt hbl
        have f1 : decide ((o : Int) < 0) = false := by simp
        have T0 := Blk.new' wr 32 #[.int .i64 xk, .int .i64 o, .string xt, .int .i64 L] rfl
        have hbw : Below w3.heap.size w3 (wr.alloc (.cells #[.int .i64 xk, .int .i64 o, .string xt, .int .i64 L] 32)) := hbr.alloc hsr _
        by_cases hcond : (o : Int) + (L : Int) ≤ s.size
        · have hcD : decide ((s.size : Int) < (o : Int) + (L : Int)) = false := by simp; omega
          have w3' : ((o : Int) + (L : Int)).toNat = o + L := by omega
          have w4' : (0 : Int) ≤ (o : Int) + (L : Int) := by omega
          have w5 : (o : Int) ≤ (o : Int) + (L : Int) := by omega
          have hxs : (s.extract o (o + L)).size = L := by rw [ByteArray.size_extract]; omega
          have hsum : ¬ (9223372036854775807 < min (o + L) s.size - o + t.size) := by omega
          have hxt : (s.extract o (o + L) ++ t).size ≤ 1048576 := by rw [ByteArray.size_append, hxs]; omega
          have HXT := Lib.hid hxt
          have hLO := HLO.out (by simpa using hcond)
          have hlen : 0 < (lexL d (s.extract o (o + L) ++ t)).length := (List.getElem?_eq_some_iff.1 hLO).1
          have HLO2 := Lib.hid hLO
          have hlen1 : (((lexL d (s.extract o (o + L) ++ t)).length : Int) == 0) = false := by rw [beq_eq_false_iff_ne]; omega
          have hsz0 : w.heap.size ≤ wr.heap.size + 1 := by omega
          have HD5 := Lib.hid (HD3.out.below (hbw.mono (by omega)))
          clear hxt hxs hLO
          have hx3 := Below.refl w3.heap.size w3
          obtain ⟨p0, p1, p2⟩ := cells3 (w' := wr.alloc (.cells #[.int .i64 xk, .int .i64 o, .string xt, .int .i64 L] 32)) C3 hbw (by omega)
          have hszW : (wr.alloc (.cells #[.int .i64 xk, .int .i64 o, .string xt, .int .i64 L] 32)).heap.size = wr.heap.size + 1 := by simp
          clear c0 c1 c2
          go_wp2_with fail
          generalize hW : wr.alloc (.cells #[.int .i64 xk, .int .i64 o, .string xt, .int .i64 L] 32) = W at *
          have t0 := T0.cell 0
          have t1 := T0.cell 1
          have t2 := T0.cell 2
          have t3 := T0.cell 3
          simp at t0 t1 t2 t3
          clear hW
          go_still_tail 8, (by kernel_rfl)
          change wpList _ _ _ _ _ W.drew
          go_wp2_with (go_at_call 13; refine (lex_any v d k w.heap.size (s.extract o (o + L) ++ t) W.drew (HD5.out.keep fun _ _ => rfl) (show w.heap.size ≤ W.heap.size by omega) ho HXT.out).mono ?_; rintro e w4 ⟨A2, c2, rfl, hd1, hd2, r2, hb4⟩; obtain ⟨b', off', y, rfl, _, hy, k0, k1, k2, k3⟩ := r2.tok_at hlen; have hyx : y = ⟨xk, 0, xt, L⟩ := Option.some.inj (hy.symm.trans HLO2.out); subst hyx; simp only [Nat.zero_mul, Nat.add_zero] at k0 k1 k2 k3; have T4 := T0.below (w := W.drew) (w' := w4) hb4 (show wr.heap.size < W.heap.size by omega); have t0 := T4.cell 0; have t1 := T4.cell 1; have t2 := T4.cell 2; have t3 := T4.cell 3; simp at t0 t1 t2 t3)
          clear w3' w5 hsum hcD f1
          generalize (lexL d (s.extract o (o + L) ++ t)).length = q at *
          have g1 : (xk != xk) = false := by simp
          have g2 : ((L : Int) != (L : Int)) = false := by simp
          have g3 : (xt.toList == xt.toList) = true := by simp
          have g4 : (xt.toList != xt.toList) = false := by simp
          go_quiet (fail)
          go_wp2_with fail
          go_roundw
          case rel => exact ⟨i + 1, by omega, by go_num, below_drewN (hbw.trans ((below_from_drewN (n := 1) hb4).mono (show w3.heap.size ≤ W.heap.size by omega))) _⟩
          case measure => simp [intOf]; omega
        · have hcD : decide ((s.size : Int) < (o : Int) + (L : Int)) = true := by simp; omega
          go_wp2_with fail
          go_roundw
          case rel => exact ⟨i + 1, by omega, by go_num, hbw⟩
          case measure => simp [intOf]; omega
      · go_wp2_with fail
        go_ret
        exact ⟨rfl, hL3.trans (hbr.mono (by omega))⟩

end Go.Proofs.Ytdpdggmafmebeaa
