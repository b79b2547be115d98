/- LexerMaximalMunch returns true for every automaton and text. -/
import Derived.Test.YtdpdggmafmebeaaLawLex
import Derived.Test.YtdpdggmafmebeaaMunch
namespace Go.Proofs.Ytdpdggmafmebeaa
open Go.RowKit

set_option maxRecDepth 100000 in
set_option maxHeartbeats 1000000 in
theorem lawMunch_any (v : DfaV) (d : Dfa) (B : Nat) (s : ByteArray) (w : World) (hd : DfaAt w B v d) (hB : B ≤ w.heap.size) (hs : s.size ≤ maxLen) :
    Calls Try.prog 5 #[.agg #[.slice v.Ac v.nc v.cc, .slice v.An v.nn v.cn, .slice v.Aa v.na v.ca], .string s] w fun e w' => e = .returned (.bool true) ∧ Below w.heap.size w w' := by
  have HD := Lib.hid ((hd.more hB).alloc (Nat.le_refl _) (.cells v.cells 25))
  have K := Blk.new' w 25 v.cells rfl
  have hb0 : Below w.heap.size w (w.alloc (.cells v.cells 25)) := (Below.refl _ _).alloc (Nat.le_refl _) _
  clear hd
  go_enter Try.func5, Try.ntmps5
  go_wp2_with fail
  refine (awake_any _).mono ?_
  rintro e w1 ⟨rfl, hb1⟩
  simp only [World.size_alloc] at hb1
  have K1 := K.below hb1 (by omega)
  have hs1 := hb1.size
  have HD1 := Lib.hid (HD.out.below (hb1.mono (by omega)))
  simp only [World.size_alloc] at hs1
  have g0 := K1.cell 0
  have g1 := K1.cell 1
  have g2 := K1.cell 2
  simp [DfaV.cells] at g0 g1 g2
  go_wp2_with fail
  refine (light_any v d w.heap.size s w1 HD1.out (by omega) hs).mono ?_
  rintro e w2 ⟨b, rfl, hok, hb2⟩
  have hbb : Below w.heap.size w w2 := (hb0.trans (hb1.mono (by omega))).trans (hb2.mono (by omega))
  have hs2 := hb2.size
  clear hb0 K HD
  cases b with
  | false =>
    go_wp2_with fail
    go_ret
    exact ⟨rfl, hbb⟩
  | true =>
    obtain ⟨⟨k, ho⟩, hn60, hs60⟩ := hok rfl
    obtain ⟨q0, q1, q2⟩ := cells3 (w' := w2) ⟨g0, g1, g2⟩ (hb2.mono (by omega)) (Nat.lt_succ_self _)
    have HD2 := Lib.hid (HD1.out.below (hb2.mono (by omega)))
    have hsL := hbb.size
    clear g0 g1 g2 hok HD1 K1
    go_wp2_with fail
    refine (lex_any v d k w.heap.size s w2 HD2.out (by omega) ho (by omega)).mono ?_
    rintro e w3 ⟨A, c, rfl, hc1, hc2, hr, hb3⟩
    have hs3 := hb3.size
    have hL3 : Below w.heap.size w w3 := hbb.trans (hb3.mono (by omega))
    have C3 := cells3 (w' := w3) ⟨q0, q1, q2⟩ hb3 (by omega)
    have HD3 := Lib.hid (HD2.out.below (hb3.mono (by omega)))
    have HR := Lib.hid hr
    clear hb3 q0 q1 q2 HD2 hr
    unfold maxLen at hc2
    have hmn : (lexL d s).length ≤ 9223372036854775807 := by omega
    obtain ⟨n, hn⟩ : ∃ n, n = (lexL d s).length := ⟨_, rfl⟩
    rw [← hn] at hmn hc1 HR ⊢
    have HN := Lib.hid hn
    clear hn
    go_wp2_with fail
    go_loopw [6] (fun b wr => ∃ i : Nat, i ≤ n ∧ b = .int .i64 i ∧ Below w3.heap.size w3 wr) (fun b _ => n - (intOf b).toNat)
    case atStart => exact ⟨0, by omega, rfl, Below.refl _ _⟩
    case round =>
      obtain ⟨i, hi, rfl, hbr⟩ := hrel
      obtain ⟨wo, rfl⟩ : ∃ wo : World, wo = wr := ⟨_, rfl⟩
      have hsr := hbr.size
      by_cases hlt : i < n
      · obtain ⟨b, off, t, rfl, hbl, ht, h0, h1, h2, h3⟩ := (HR.out.below hbr).tok_at hlt
        have hca := chain_at d s _ 0 i t (chain_lexL d s) ht
        rw [Nat.zero_add] at hca
        generalize offs (lexL d s) i = o at hca
        obtain ⟨hos, hte⟩ := hca
        have hbd := tokAt_bd d s _ hos
        have hm := fun e => munch_at ho s o e hos
        have hk1 := tokAt_kind ho s o hos
        rw [← hte] at hbd hm hk1
        have hpos : t.pos = (o : Nat) := by rw [hte]; rfl
        obtain ⟨tk, tp, tt, tl⟩ := t
        simp only at h0 h1 h2 h3 hbd hm hk1 hpos
        subst hpos
        have HM := Lib.hid hm
        have HK := Lib.hid hk1
        clear hm hk1 hte ht
        have c0 := (hbr.cell (p := ⟨w.heap.size, 0, none⟩) (by simp; omega)).trans C3.1
        have c1 := (hbr.cell (p := ⟨w.heap.size, 1, none⟩) (by simp; omega)).trans C3.2.1
        have c2 := (hbr.cell (p := ⟨w.heap.size, 2, none⟩) (by simp; omega)).trans C3.2.2
        have w1' : IntKind.i64.wrap ((s.size : Int) - (o : Int)) = (s.size : Int) - o := IntWalk.i64_in _ (by omega)
        have f1 : decide ((o : Int) < 0) = false := by simp
        have f2 : decide ((s.size : Int) ≤ (o : Int)) = false := by simp; omega
        have f3 : decide ((s.size : Int) - o < (tt.size : Int)) = false := by simp; omega
        have hbw : Below w3.heap.size w3 (wo.alloc (.cells #[.int .i64 tk, .int .i64 o, .string tt, .int .i64 tl] 32)) := hbr.alloc hsr _
        have T0 := Blk.new' wo 32 #[.int .i64 tk, .int .i64 o, .string tt, .int .i64 tl] rfl
        have hne := Nat.ne_of_lt hbl
        have f2n : decide (s.size ≤ o) = false := by simp; omega
        by_cases hk : tk = -1
        · have f5 : ((tt.size : Int) != 1) = false := by have := HK.out hk; simp; omega
          have f6 : (tk == -1) = true := by simp [hk]
          have HKE := Lib.hid hk
          clear hk
          have hbd1 := hbd.1
          have hbd2 := hbd.2
          go_wp2_with fail
          go_loopw [8] (fun b wr => ∃ e : Nat, o + 1 ≤ e ∧ e ≤ s.size + 1 ∧ b = .int .i64 e ∧ Below (wo.heap.size + 1) (wo.alloc (.cells #[.int .i64 tk, .int .i64 o, .string tt, .int .i64 tl] 32)) wr) (fun b _ => s.size + 1 - (intOf b).toNat)
          case atStart => exact ⟨o + 1, by omega, by omega, by go_num, Below.refl _ _⟩
          case round =>
            obtain ⟨e, he1, he2, rfl, hb5⟩ := hrel
            have hs5 := hb5.size
            simp only [World.size_alloc] at hs5
            by_cases hle : e ≤ s.size
            · have C5 := cells3 (w' := wr) ⟨c0, c1, c2⟩ (((Below.refl wo.heap.size wo).alloc (Nat.le_refl _) _).trans (hb5.mono (by omega))) (by omega)
              obtain ⟨d0, d1, d2⟩ := C5
              have T5 := T0.below hb5 (by omega)
              have t0 := T5.cell 0
              have t1 := T5.cell 1
              have t2 := T5.cell 2
              simp at t0 t1 t2
              have HD5 := Lib.hid (HD3.out.below ((hbw.trans (hb5.mono (by omega))).mono (by omega)))
              have hMe := HM.out e
              have HMe := Lib.hid hMe
              clear hMe
              have hle' : (e : Int) ≤ (s.size : Int) := by omega
              have hoe : (o : Int) ≤ (e : Int) := by omega
              have hsz0 : w.heap.size ≤ wr.heap.size := by omega
              by_cases g1 : e = o + tt.size
              · have r1 : ((e : Int) == (o : Int) + (tt.size : Int)) = true := by simp; omega
                have r2 : runL d (s.extract o e) = tk := (HMe.out (by omega) hle).1 g1
                have r3 : (tk != tk) = false := by simp
                have HR2 := Lib.hid r2
                have HG := Lib.hid g1
                clear r2 g1
                go_wp2_with fail
                go_still_tail 6, (by kernel_rfl)
                change wpList _ _ _ _ _ wr.drew
                go_wp2_with (go_at_call 16; refine (run_any v d k w.heap.size (s.extract o e) wr.drew (HD5.out.keep fun _ _ => rfl) hsz0 ho (by rw [ByteArray.size_extract]; omega)).mono ?_; rintro e1 w6 ⟨rfl, hb6⟩; rw [HR2.out]; have t0 := (T5.below (w' := w6) (w := wr.drew) hb6 (show wo.heap.size < wr.heap.size by omega)).cell 0; have t1 := (T5.below (w' := w6) (w := wr.drew) hb6 (show wo.heap.size < wr.heap.size by omega)).cell 1; have t2 := (T5.below (w' := w6) (w := wr.drew) hb6 (show wo.heap.size < wr.heap.size by omega)).cell 2; simp at t0 t1 t2)
                go_roundw
                case rel => exact ⟨e + 1, by omega, by omega, by go_num, hb5.trans ((below_from_drewN (n := 1) hb6).mono (show wo.heap.size + 1 ≤ wr.heap.size by omega))⟩
                case measure => simp [intOf]; omega
              · have r1 : ((e : Int) == (o : Int) + (tt.size : Int)) = false := by simp; omega
                by_cases g2 : o + tt.size < e
                · have r2 : (o : Int) + (tt.size : Int) < (e : Int) := by omega
                  have hneg := (HMe.out (by omega) hle).2 (.inl g2)
                  clear g1 g2
                  go_wp2_with fail
                  go_still_tail 6, (by kernel_rfl)
                  change wpList _ _ _ _ _ wr.drew
                  go_wp2_with (go_at_call 16; refine (run_any v d k w.heap.size (s.extract o e) wr.drew (HD5.out.keep fun _ _ => rfl) hsz0 ho (by rw [ByteArray.size_extract]; omega)).mono ?_; rintro e1 w6 ⟨rfl, hb6⟩; have t0 := (T5.below (w' := w6) (w := wr.drew) hb6 (show wo.heap.size < wr.heap.size by omega)).cell 0; have t1 := (T5.below (w' := w6) (w := wr.drew) hb6 (show wo.heap.size < wr.heap.size by omega)).cell 1; have t2 := (T5.below (w' := w6) (w := wr.drew) hb6 (show wo.heap.size < wr.heap.size by omega)).cell 2; simp at t0 t1 t2)
                  go_roundw
                  case rel => exact ⟨e + 1, by omega, by omega, by go_num, hb5.trans ((below_from_drewN (n := 1) hb6).mono (show wo.heap.size + 1 ≤ wr.heap.size by omega))⟩
                  case measure => simp [intOf]; omega
                · have r2 : ¬ (o : Int) + (tt.size : Int) < (e : Int) := by omega
                  have hneg := (HMe.out (by omega) hle).2 (.inr HKE.out)
                  clear g1 g2
                  go_wp2_with fail
                  go_still_tail 6, (by kernel_rfl)
                  change wpList _ _ _ _ _ wr.drew
                  go_wp2_with (go_at_call 16; refine (run_any v d k w.heap.size (s.extract o e) wr.drew (HD5.out.keep fun _ _ => rfl) hsz0 ho (by rw [ByteArray.size_extract]; omega)).mono ?_; rintro e1 w6 ⟨rfl, hb6⟩; have t0 := (T5.below (w' := w6) (w := wr.drew) hb6 (show wo.heap.size < wr.heap.size by omega)).cell 0; have t1 := (T5.below (w' := w6) (w := wr.drew) hb6 (show wo.heap.size < wr.heap.size by omega)).cell 1; have t2 := (T5.below (w' := w6) (w := wr.drew) hb6 (show wo.heap.size < wr.heap.size by omega)).cell 2; simp at t0 t1 t2)
                  go_roundw
                  case rel => exact ⟨e + 1, by omega, by omega, by go_num, hb5.trans ((below_from_drewN (n := 1) hb6).mono (show wo.heap.size + 1 ≤ wr.heap.size by omega))⟩
                  case measure => simp [intOf]; omega
            · go_wp2_with fail
              go_roundw
              case rel => exact ⟨i + 1, by omega, by go_num, hbw.trans (hb5.mono (by omega))⟩
              case measure => simp [intOf]; omega
        · have f6 : (tk == -1) = false := by simp [hk]
          have HKE := Lib.hid hk
          clear hk
          have hbd1 := hbd.1
          have hbd2 := hbd.2
          go_wp2_with fail
          go_loopw [8] (fun b wr => ∃ e : Nat, o + 1 ≤ e ∧ e ≤ s.size + 1 ∧ b = .int .i64 e ∧ Below (wo.heap.size + 1) (wo.alloc (.cells #[.int .i64 tk, .int .i64 o, .string tt, .int .i64 tl] 32)) wr) (fun b _ => s.size + 1 - (intOf b).toNat)
          case atStart => exact ⟨o + 1, by omega, by omega, by go_num, Below.refl _ _⟩
          case round =>
            obtain ⟨e, he1, he2, rfl, hb5⟩ := hrel
            have hs5 := hb5.size
            simp only [World.size_alloc] at hs5
            by_cases hle : e ≤ s.size
            · have C5 := cells3 (w' := wr) ⟨c0, c1, c2⟩ (((Below.refl wo.heap.size wo).alloc (Nat.le_refl _) _).trans (hb5.mono (by omega))) (by omega)
              obtain ⟨d0, d1, d2⟩ := C5
              have T5 := T0.below hb5 (by omega)
              have t0 := T5.cell 0
              have t1 := T5.cell 1
              have t2 := T5.cell 2
              simp at t0 t1 t2
              have HD5 := Lib.hid (HD3.out.below ((hbw.trans (hb5.mono (by omega))).mono (by omega)))
              have hMe := HM.out e
              have HMe := Lib.hid hMe
              clear hMe
              have hle' : (e : Int) ≤ (s.size : Int) := by omega
              have hoe : (o : Int) ≤ (e : Int) := by omega
              have hsz0 : w.heap.size ≤ wr.heap.size := by omega
              by_cases g1 : e = o + tt.size
              · have r1 : ((e : Int) == (o : Int) + (tt.size : Int)) = true := by simp; omega
                have r2 : runL d (s.extract o e) = tk := (HMe.out (by omega) hle).1 g1
                have r3 : (tk != tk) = false := by simp
                have HR2 := Lib.hid r2
                have HG := Lib.hid g1
                clear r2 g1
                go_wp2_with fail
                go_still_tail 6, (by kernel_rfl)
                change wpList _ _ _ _ _ wr.drew
                go_wp2_with (go_at_call 16; refine (run_any v d k w.heap.size (s.extract o e) wr.drew (HD5.out.keep fun _ _ => rfl) hsz0 ho (by rw [ByteArray.size_extract]; omega)).mono ?_; rintro e1 w6 ⟨rfl, hb6⟩; rw [HR2.out]; have t0 := (T5.below (w' := w6) (w := wr.drew) hb6 (show wo.heap.size < wr.heap.size by omega)).cell 0; have t1 := (T5.below (w' := w6) (w := wr.drew) hb6 (show wo.heap.size < wr.heap.size by omega)).cell 1; have t2 := (T5.below (w' := w6) (w := wr.drew) hb6 (show wo.heap.size < wr.heap.size by omega)).cell 2; simp at t0 t1 t2)
                go_roundw
                case rel => exact ⟨e + 1, by omega, by omega, by go_num, hb5.trans ((below_from_drewN (n := 1) hb6).mono (show wo.heap.size + 1 ≤ wr.heap.size by omega))⟩
                case measure => simp [intOf]; omega
              · have r1 : ((e : Int) == (o : Int) + (tt.size : Int)) = false := by simp; omega
                by_cases g2 : o + tt.size < e
                · have r2 : (o : Int) + (tt.size : Int) < (e : Int) := by omega
                  have hneg := (HMe.out (by omega) hle).2 (.inl g2)
                  clear g1 g2
                  go_wp2_with fail
                  go_still_tail 6, (by kernel_rfl)
                  change wpList _ _ _ _ _ wr.drew
                  go_wp2_with (go_at_call 16; refine (run_any v d k w.heap.size (s.extract o e) wr.drew (HD5.out.keep fun _ _ => rfl) hsz0 ho (by rw [ByteArray.size_extract]; omega)).mono ?_; rintro e1 w6 ⟨rfl, hb6⟩; have t0 := (T5.below (w' := w6) (w := wr.drew) hb6 (show wo.heap.size < wr.heap.size by omega)).cell 0; have t1 := (T5.below (w' := w6) (w := wr.drew) hb6 (show wo.heap.size < wr.heap.size by omega)).cell 1; have t2 := (T5.below (w' := w6) (w := wr.drew) hb6 (show wo.heap.size < wr.heap.size by omega)).cell 2; simp at t0 t1 t2)
                  go_roundw
                  case rel => exact ⟨e + 1, by omega, by omega, by go_num, hb5.trans ((below_from_drewN (n := 1) hb6).mono (show wo.heap.size + 1 ≤ wr.heap.size by omega))⟩
                  case measure => simp [intOf]; omega
                · have r2 : ¬ (o : Int) + (tt.size : Int) < (e : Int) := by omega
                  clear g1 g2
                  go_wp2_with fail
                  go_still_tail 6, (by kernel_rfl)
                  change wpList _ _ _ _ _ wr.drew
                  go_wp2_with (go_at_call 16; refine (run_any v d k w.heap.size (s.extract o e) wr.drew (HD5.out.keep fun _ _ => rfl) hsz0 ho (by rw [ByteArray.size_extract]; omega)).mono ?_; rintro e1 w6 ⟨rfl, hb6⟩; have t0 := (T5.below (w' := w6) (w := wr.drew) hb6 (show wo.heap.size < wr.heap.size by omega)).cell 0; have t1 := (T5.below (w' := w6) (w := wr.drew) hb6 (show wo.heap.size < wr.heap.size by omega)).cell 1; have t2 := (T5.below (w' := w6) (w := wr.drew) hb6 (show wo.heap.size < wr.heap.size by omega)).cell 2; simp at t0 t1 t2)
                  go_roundw
                  case rel => exact ⟨e + 1, by omega, by omega, by go_num, hb5.trans ((below_from_drewN (n := 1) hb6).mono (show wo.heap.size + 1 ≤ wr.heap.size by omega))⟩
                  case measure => simp [intOf]; omega
            · go_wp2_with fail
              go_roundw
              case rel => exact ⟨i + 1, by omega, by go_num, hbw.trans (hb5.mono (by omega))⟩
              case measure => simp [intOf]; omega
      · go_wp2_with fail
        go_ret
        exact ⟨rfl, hL3.trans (hbr.mono (by omega))⟩

end Go.Proofs.Ytdpdggmafmebeaa
