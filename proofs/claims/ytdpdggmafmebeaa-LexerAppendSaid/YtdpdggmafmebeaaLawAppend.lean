/- LexerAppend returns true for every automaton and texts. -/
import Derived.Test.YtdpdggmafmebeaaLawLex
import Derived.Test.YtdpdggmafmebeaaAgree
namespace Go.Proofs.Ytdpdggmafmebeaa
open Go.RowKit

set_option maxRecDepth 100000 in
set_option maxHeartbeats 1000000 in
theorem lawAppend_any (v : DfaV) (d : Dfa) (B : Nat) (s : ByteArray) (t : ByteArray) (w : World) (hd : DfaAt w B v d) (hB : B ≤ w.heap.size) (hs : s.size ≤ maxLen) (ht : t.size ≤ maxLen) :
    Calls Try.prog 8 #[.agg #[.slice v.Ac v.nc v.cc, .slice v.An v.nn v.cn, .slice v.Aa v.na v.ca], .string s, .string t] w fun e w' => e = .returned (.bool true) ∧ Below w.heap.size w w' := by
  have HD := Lib.hid ((hd.more hB).alloc (Nat.le_refl _) (.cells v.cells 25))
  have K := Blk.new' w 25 v.cells rfl
  have hb0 : Below w.heap.size w (w.alloc (.cells v.cells 25)) := (Below.refl _ _).alloc (Nat.le_refl _) _
  clear hd
  go_enter Try.func8, Try.ntmps8
  go_wp2_with fail
  refine (awake_any _).mono ?_
  rintro e w1 ⟨rfl, hb1⟩
  simp only [World.size_alloc] at hb1
  have K1 := K.below hb1 (by omega)
  have hs1 := hb1.size
  have HD1 := Lib.hid (HD.out.below (hb1.mono (by omega)))
  simp only [World.size_alloc] at hs1
  have g0 := K1.cell 0
  have g1 := K1.cell 1
  have g2 := K1.cell 2
  simp [DfaV.cells] at g0 g1 g2
  go_wp2_with fail
  refine (light_any v d w.heap.size s w1 HD1.out (by omega) hs).mono ?_
  rintro e w2 ⟨b, rfl, hok, hb2⟩
  have hbb : Below w.heap.size w w2 := (hb0.trans (hb1.mono (by omega))).trans (hb2.mono (by omega))
  have hs2 := hb2.size
  clear hb0 K HD
  cases b with
  | false =>
    go_wp2_with fail
    go_ret
    exact ⟨rfl, hbb⟩
  | true =>
    obtain ⟨⟨k, ho⟩, hn60, hs60⟩ := hok rfl
    obtain ⟨q0, q1, q2⟩ := cells3 (w' := w2) ⟨g0, g1, g2⟩ (hb2.mono (by omega)) (Nat.lt_succ_self _)
    have HD2 := Lib.hid (HD1.out.below (hb2.mono (by omega)))
    have hsL := hbb.size
    clear g0 g1 g2 hok HD1 K1
    by_cases ht30 : t.size ≤ 30
    case neg =>
      have f0 : (30 : Int) < (t.size : Int) := by omega
      go_wp2_with fail
      go_ret
      exact ⟨rfl, hbb⟩
    have f0 : ¬ (30 : Int) < (t.size : Int) := by omega
    have hst : (s ++ t).size ≤ 1048576 := by rw [ByteArray.size_append]; omega
    have HST := Lib.hid hst
    have hsum : ¬ (9223372036854775807 < s.size + t.size) := by omega
    clear hst
    go_wp2_with fail
    go_region_held3 (fun w' => w'.cell? ⟨w.heap.size, 0, none⟩ = some (.slice v.Ac v.nc v.cc) ∧ w'.cell? ⟨w.heap.size, 1, none⟩ = some (.slice v.An v.nn v.cn) ∧ w'.cell? ⟨w.heap.size, 2, none⟩ = some (.slice v.Aa v.na v.ca) ∧ Below (w.heap.size + 1) w2 w')
      (first | exact keep3 q0 q1 q2 ((Below.refl _ _).drew) | exact keep3 q0 q1 q2 X4 | exact keep3 q0 q1 q2 X3)
      (first
        | (go_at_call_of 13 (Value.string s); refine (lex_any v d k w.heap.size s w2.drew (HD2.out.keep fun _ _ => rfl) (show w.heap.size ≤ w2.heap.size by omega) ho (by omega)).mono ?_; rintro e w3 ⟨A1, c1, rfl, hc1, hm1, r1, hb3⟩; have X3 : Below (w.heap.size + 1) w2 w3 := ((Below.refl _ w2).drew).trans (hb3.mono (show w.heap.size + 1 ≤ w2.heap.size by omega)))
        | (go_at_call_of 13 (Value.string (s ++ t)); refine (lex_any v d k w.heap.size (s ++ t) w3 (HD2.out.below (X3.mono (by omega))) (by have := X3.size; omega) ho HST.out).mono ?_; rintro e w4 ⟨A2, c2, rfl, hc2, hm2, r2, hb4⟩; have X4 : Below (w.heap.size + 1) w2 w4 := X3.trans (hb4.mono (by have := X3.size; omega))))
    have hL4 : Below w.heap.size w w4 := hbb.trans (X4.mono (by omega))
    have R1 := Lib.hid (r1.below hb4)
    have R2 := Lib.hid r2
    clear r1 r2 hb3 hb4 X3 X4
    unfold maxLen at hm1 hm2
    obtain ⟨n, hn⟩ : ∃ n, n = (lexL d s).length := ⟨_, rfl⟩
    obtain ⟨m, hm⟩ : ∃ m, m = (lexL d (s ++ t)).length := ⟨_, rfl⟩
    rw [← hn] at hc1 R1 ⊢
    rw [← hm] at hc2 R2 ⊢
    have HN := Lib.hid hn
    have HM := Lib.hid hm
    have hn1 : n ≤ 9223372036854775807 := by omega
    have hm1 : m ≤ 9223372036854775807 := by omega
    have hneq := fun w => run_neq_tok w
    clear hn hm
    go_wp2_with fail
    go_loopw [9] (fun b wr => ∃ i : Nat, i ≤ n ∧ b = .int .i64 i ∧ (∃ nd, wr = w4.drewN nd) ∧ Hid (∀ (j : Nat) (u : Tok), j < i → (lexL d s)[j]? = some u → u.pos + u.look ≤ s.size)) (fun b _ => n - (intOf b).toNat)
    case atStart => exact ⟨0, by omega, rfl, ⟨0, rfl⟩, fun j u hj => absurd hj (by omega)⟩
    case round =>
      obtain ⟨i, hi, rfl, ⟨nd, rfl⟩, HJ⟩ := hrel
      by_cases hlt : i < n
      · have hltI : (i : Int) < (n : Int) := by omega
        have hltD : decide (i < n) = true := by simp [hlt]
        obtain ⟨b, off, x, rfl, _, hx, h0, h1, h2, h3⟩ := R1.out.tok_at hlt
        have hca := chain_at d s _ 0 i x (chain_lexL d s) hx
        rw [Nat.zero_add] at hca
        generalize offs (lexL d s) i = o at hca
        obtain ⟨hos, hxe⟩ := hca
        have hlk := tokAt_look d s _ hos
        rw [← hxe] at hlk
        have hpos : x.pos = (o : Nat) := by rw [hxe]; rfl
        have HX := Lib.hid hx
        clear hxe hx
        obtain ⟨xk, xp, xt, xl⟩ := x
        simp only at h0 h1 h2 h3 hlk hpos
        subst hpos
        have w1' : IntKind.i64.wrap ((o : Int) + xl) = (o : Int) + xl := IntWalk.i64_in _ (by omega)
        by_cases hcond : (o : Int) + xl ≤ s.size
        · have hcD : decide ((o : Int) + xl ≤ (s.size : Int)) = true := by simp [hcond]
          have hm3 := lexL_append d s t i _ HX.out (fun j u hj hu => by
            rcases Nat.lt_or_ge j i with h | h
            · exact HJ.out j u h hu
            · obtain rfl : j = i := by omega
              have e1 := hu.symm.trans HX.out
              injection e1 with e1
              subst e1
              exact hcond)
          have him : i < m := by rw [HM.out]; exact (List.getElem?_eq_some_iff.1 hm3).1
          have himI : (i : Int) < (m : Int) := by omega
          have himD : decide (m ≤ i) = false := by simp; omega
          obtain ⟨b', off', y, rfl, _, hy, k0, k1, k2, k3⟩ := R2.out.tok_at him
          have hyx : y = ⟨xk, o, xt, xl⟩ := by
            have e1 := hy.symm.trans hm3
            injection e1
          clear hm3 hy
          subst hyx
          simp only at k0 k1 k2 k3
          have heqb : Tok.eqb ⟨xk, o, xt, xl⟩ ⟨xk, o, xt, xl⟩ = true := Tok.eqb_iff.2 rfl
          go_wp2_with fail
          go_quiet (fail)
          go_wp2_with fail
          go_quiet (fail)
          go_wp2_with fail
          go_roundw
          case rel =>
            refine ⟨i + 1, by omega, by go_num, by (try simp only [World.drewN_drewN]); exact drew1 _ _, fun j u hj hu => ?_⟩
            rcases Nat.lt_or_ge j i with h | h
            · exact HJ.out j u h hu
            · obtain rfl : j = i := by omega
              have e1 := hu.symm.trans HX.out
              injection e1 with e1
              subst e1
              exact hcond
          case measure => simp [intOf]; omega
        · have hcD : decide ((o : Int) + xl ≤ (s.size : Int)) = false := by simp; omega
          go_wp2_with fail
          go_quiet (fail)
          go_wp2_with fail
          go_ret
          exact ⟨rfl, by (try simp only [World.drewN_drewN]); exact below_drewN hL4 _⟩
      · have hltI : ¬ (i : Int) < (n : Int) := by omega
        have hltD : decide (i < n) = false := by simp [hlt]
        go_wp2_with fail
        go_quiet (fail)
        go_wp2_with fail
        go_ret
        exact ⟨rfl, by (try simp only [World.drewN_drewN]); exact below_drewN hL4 _⟩

end Go.Proofs.Ytdpdggmafmebeaa
