/- LexerRestarts returns true for every automaton, text and number. -/
import Derived.Test.YtdpdggmafmebeaaLawLex
import Derived.Test.YtdpdggmafmebeaaAgree
namespace Go.Proofs.Ytdpdggmafmebeaa
open Go.RowKit

set_option maxRecDepth 100000 in
set_option maxHeartbeats 1000000 in
theorem lawRestart_any (v : DfaV) (d : Dfa) (B : Nat) (s : ByteArray) (t : Int) (w : World) (hd : DfaAt w B v d) (hB : B ≤ w.heap.size) (hs : s.size ≤ maxLen) (ht : 0 ≤ t ∧ t ≤ 255) :
    Calls Try.prog 7 #[.agg #[.slice v.Ac v.nc v.cc, .slice v.An v.nn v.cn, .slice v.Aa v.na v.ca], .string s, .int .u8 t] w fun e w' => e = .returned (.bool true) ∧ Below w.heap.size w w' := by
  have HD := Lib.hid ((hd.more hB).alloc (Nat.le_refl _) (.cells v.cells 25))
  have K := Blk.new' w 25 v.cells rfl
  have hb0 : Below w.heap.size w (w.alloc (.cells v.cells 25)) := (Below.refl _ _).alloc (Nat.le_refl _) _
  clear hd
  go_enter Try.func7, Try.ntmps7
  go_wp2_with fail
  refine (awake_any _).mono ?_
  rintro e w1 ⟨rfl, hb1⟩
  simp only [World.size_alloc] at hb1
  have K1 := K.below hb1 (by omega)
  have hs1 := hb1.size
  have HD1 := Lib.hid (HD.out.below (hb1.mono (by omega)))
  simp only [World.size_alloc] at hs1
  have g0 := K1.cell 0
  have g1 := K1.cell 1
  have g2 := K1.cell 2
  simp [DfaV.cells] at g0 g1 g2
  go_wp2_with fail
  refine (light_any v d w.heap.size s w1 HD1.out (by omega) hs).mono ?_
  rintro e w2 ⟨b, rfl, hok, hb2⟩
  have hbb : Below w.heap.size w w2 := (hb0.trans (hb1.mono (by omega))).trans (hb2.mono (by omega))
  have hs2 := hb2.size
  clear hb0 K HD
  cases b with
  | false =>
    go_wp2_with fail
    go_ret
    exact ⟨rfl, hbb⟩
  | true =>
    obtain ⟨⟨k, ho⟩, hn60, hs60⟩ := hok rfl
    obtain ⟨q0, q1, q2⟩ := cells3 (w' := w2) ⟨g0, g1, g2⟩ (hb2.mono (by omega)) (Nat.lt_succ_self _)
    have HD2 := Lib.hid (HD1.out.below (hb2.mono (by omega)))
    have hsL := hbb.size
    clear g0 g1 g2 hok HD1 K1
    by_cases hs0 : s.size = 0
    case pos =>
      have f0 : ((s.size : Int) == 0) = true := by rw [beq_iff_eq]; omega
      have HS0 := Lib.hid hs0
      clear hs0
      go_wp2_with fail
      go_ret
      exact ⟨rfl, hbb⟩
    have f0 : ((s.size : Int) == 0) = false := by rw [beq_eq_false_iff_ne]; omega
    go_wp2_with fail
    refine (lex_any v d k w.heap.size s w2 HD2.out (by omega) ho (by omega)).mono ?_
    rintro e w3 ⟨A, c, rfl, hc1, hc2, hr, hb3⟩
    have hs3 := hb3.size
    have hL3 : Below w.heap.size w w3 := hbb.trans (hb3.mono (by omega))
    obtain ⟨p0, p1, p2⟩ := cells3 (w' := w3) ⟨q0, q1, q2⟩ hb3 (by omega)
    have HD3 := Lib.hid (HD2.out.below (hb3.mono (by omega)))
    have HR := Lib.hid hr
    clear hb3 q0 q1 q2 HD2 hr
    unfold maxLen at hc2
    have hn0 : 0 < (lexL d s).length := by
      have := chain_end d s _ 0 (chain_lexL d s)
      rcases Nat.eq_zero_or_pos (lexL d s).length with h | h
      · rw [h, offs_zero] at this; omega
      · exact h
    obtain ⟨n, hn⟩ : ∃ n, n = (lexL d s).length := ⟨_, rfl⟩
    rw [← hn] at hn0 hc1 HR ⊢
    have HN := Lib.hid hn
    have hmn : n ≤ 9223372036854775807 := by omega
    have f1 : ((n : Int) == 0) = false := by rw [beq_eq_false_iff_ne]; omega
    obtain ⟨tn, rfl⟩ := Int.eq_ofNat_of_zero_le ht.1
    have hkn : tn % n < n := Nat.mod_lt _ hn0
    have hmod : (tn : Int) % (n : Int) = ((tn % n : Nat) : Int) := by omega
    generalize tn % n = kk at *
    obtain ⟨b, off, x, rfl, hbl, hx, h0, h1, h2, h3⟩ := HR.out.tok_at hkn
    have hca := chain_at d s _ 0 kk x (chain_lexL d s) hx
    rw [Nat.zero_add] at hca
    have hre := lexL_restart d s kk (by rw [← hn]; exact hkn)
    generalize offs (lexL d s) kk = o at hca hre
    obtain ⟨hos, hxe⟩ := hca
    have hpos : x.pos = (o : Nat) := by rw [hxe]; rfl
    have hql : (lexL d (s.extract o s.size)).length = n - kk := by
      have := congrArg List.length hre
      rw [List.length_map, List.length_drop, ← hn] at this
      exact this
    have HRE := Lib.hid hre
    have HQ := Lib.hid hql
    have HXT : Hid ((s.extract o s.size).size ≤ 60) := by show (s.extract o s.size).size ≤ 60; rw [ByteArray.size_extract]; omega
    clear hxe hx hre hql hn
    obtain ⟨xk, xp, xt, xl⟩ := x
    simp only at h0 h1 h2 h3 hpos
    subst hpos
    have f2 : decide ((o : Int) < 0) = false := by simp
    have f3 : decide ((s.size : Int) < (o : Int)) = false := by simp; omega
    have f4 : (o : Int) ≤ (s.size : Int) := by omega
    have htn : (0 : Int) ≤ (tn : Int) := by omega
    have w1' : IntKind.i64.wrap ((n : Int) - (kk : Int)) = (n : Int) - kk := IntWalk.i64_in _ (by omega)
    have f5 : (((n - kk : Nat) : Int) != (n : Int) - (kk : Int)) = false := by rw [bne_eq_false_iff_eq]; omega
    have hsz3 : w.heap.size ≤ w3.heap.size := by omega
    have hneq := fun w => run_neq_tok w
    go_wp2_with fail
    rw [hmod]
    clear hmod
    go_still_tail 4, (by kernel_rfl)
    change wpList _ _ _ _ _ w3.drew
    go_wp2_with (go_at_call 13; refine (lex_any v d k w.heap.size (s.extract o s.size) w3.drew (HD3.out.keep fun _ _ => rfl) hsz3 ho (Nat.le_trans HXT.out (by omega))).mono ?_; rintro e w4 ⟨A2, c2, rfl, hd1, hd2, r2, hb4⟩; rw [HQ.out])
    have hb4' : Below w3.heap.size w3 w4 := below_from_drewN (n := 1) hb4
    have hL4 : Below w.heap.size w w4 := hL3.trans (hb4'.mono hsz3)
    have hs4 := hb4'.size
    have R1 := Lib.hid (HR.out.below hb4')
    rw [HQ.out] at r2 hd1
    have R2 := Lib.hid r2
    have HRE2 : ∀ i, i < n - kk → ∃ (y : Tok) (o2 : Nat), (lexL d (s.extract o s.size))[i]? = some y ∧ y.pos = (o2 : Nat) ∧ o2 < s.size ∧ (lexL d s)[kk + i]? = some (y.shift o) := by
      intro i hi
      have hil : i < (lexL d (s.extract o s.size)).length := by rw [HQ.out]; exact hi
      refine ⟨_, offs (lexL d (s.extract o s.size)) i, List.getElem?_eq_getElem hil, ?_, ?_, ?_⟩
      · have := chain_at d _ _ 0 i _ (chain_lexL d (s.extract o s.size)) (List.getElem?_eq_getElem hil)
        rw [Nat.zero_add] at this
        exact (congrArg Tok.pos this.2)
      · have := chain_at d _ _ 0 i _ (chain_lexL d (s.extract o s.size)) (List.getElem?_eq_getElem hil)
        have h2 := this.1
        rw [ByteArray.size_extract] at h2
        omega
      · have := congrArg (fun l => l[i]?) HRE.out
        simp only [List.getElem?_map, List.getElem?_drop] at this
        rw [← this, List.getElem?_eq_getElem hil]
        rfl
    have HRE3 := Lib.hid HRE2
    clear HRE2 hb4 hb4' r2 h0 h1 h2 h3 f0 f1 f2 f3 f4 w1' p0 p1 p2
    obtain ⟨q, hq⟩ : ∃ q, q = n - kk := ⟨_, rfl⟩
    rw [← hq] at R2 HRE3 f5 hd1 ⊢
    have hq1 : q ≤ 9223372036854775807 := by omega
    have hqn : kk + q ≤ n := by omega
    clear hq HQ
    go_wp2_with fail
    go_loopw [11] (fun b wr => ∃ i : Nat, i ≤ q ∧ b = .int .i64 i ∧ Below w4.heap.size w4 wr) (fun b _ => q - (intOf b).toNat)
    case atStart => exact ⟨0, by omega, rfl, Below.refl _ _⟩
    case round =>
      obtain ⟨i, hi, rfl, hbr⟩ := hrel
      have hsr := hbr.size
      by_cases hlt : i < q
      · obtain ⟨b2, off2, y, rfl, hb2l, hy, k0, k1, k2, k3⟩ := (R2.out.below hbr).tok_at hlt
        have hki : kk + i < n := by omega
        obtain ⟨b3, off3, z, e3, hb3l, hz, j0, j1, j2, j3⟩ := (R1.out.below (hbr.mono (by omega))).tok_at hki
        injection e3 with e3
        injection e3 with e3 e4
        subst e3; subst e4
        obtain ⟨y', o2, hy', hyp, ho2, hz'⟩ := HRE3.out i hlt
        obtain rfl : y' = y := Option.some.inj (hy'.symm.trans hy)
        obtain rfl : z = y'.shift o := Option.some.inj (hz.symm.trans hz')
        obtain ⟨yk, yp, yt, yl⟩ := y'
        simp only at k0 k1 k2 k3 hyp
        subst hyp
        simp only [Tok.shift] at j0 j1 j2 j3
        have a0 := (World.cell?_alloc_lt wr (.cells #[.int .i64 yk, .int .i64 ((o2 : Int) + (o : Int)), .string yt, .int .i64 yl] 32) _ (World.block_lt_of_cell? wr _ j0)).trans j0
        have a1 := (World.cell?_alloc_lt wr (.cells #[.int .i64 yk, .int .i64 ((o2 : Int) + (o : Int)), .string yt, .int .i64 yl] 32) _ (World.block_lt_of_cell? wr _ j1)).trans j1
        have a2 := (World.cell?_alloc_lt wr (.cells #[.int .i64 yk, .int .i64 ((o2 : Int) + (o : Int)), .string yt, .int .i64 yl] 32) _ (World.block_lt_of_cell? wr _ j2)).trans j2
        have a3 := (World.cell?_alloc_lt wr (.cells #[.int .i64 yk, .int .i64 ((o2 : Int) + (o : Int)), .string yt, .int .i64 yl] 32) _ (World.block_lt_of_cell? wr _ j3)).trans j3
        clear hy hy' hz hz'
        have heqb : Tok.eqb ⟨yk, (o2 : Int) + (o : Int), yt, yl⟩ ⟨yk, (o2 : Int) + (o : Int), yt, yl⟩ = true := Tok.eqb_iff.2 rfl
        have g1 : IntKind.i64.wrap ((o2 : Int) + (o : Int)) = (o2 : Int) + (o : Int) := IntWalk.i64_in _ (by omega)
        have g2 : IntKind.i64.wrap ((kk : Int) + (i : Int)) = (kk : Int) + (i : Int) := IntWalk.i64_in _ (by omega)
        have g3 : (0 : Int) ≤ (kk : Int) + (i : Int) := by omega
        have g4 : ((kk : Int) + (i : Int)).toNat = kk + i := by omega
        have g5 : (kk : Int) + (i : Int) < (n : Int) := by omega
        clear j0 j1 j2 j3
        go_wp2_with fail
        go_quiet (fail)
        go_wp2_with fail
        go_roundw
        case rel => exact ⟨i + 1, by omega, by go_num, below_drewN (hbr.alloc hsr _) _⟩
        case measure => simp [intOf]; omega
      · go_wp2_with fail
        go_ret
        exact ⟨rfl, hL4.trans (hbr.mono (by omega))⟩

end Go.Proofs.Ytdpdggmafmebeaa
