/- The closure that 'scanner' returns: the token at an offset is the one that 'scan' finds. -/
import Derived.Test.YthpdfgfefmoaaaaRScan
import Derived.StillTailTactics
namespace Go.Proofs.Ythpdfgfefmoaaaa
open Go.RowKit

set_option maxHeartbeats 1000000 in
theorem scanTok_any (Ac An Aa : Option Addr) (nc cc nn cn na ca : Nat) (d : Dfa) (k B gs gd i : Nat) (s : ByteArray) (w : World) (hd : DfaAt w B ⟨Ac, nc, cc, An, nn, cn, Aa, na, ca⟩ d) (hB : B ≤ w.heap.size) (ho : d.Ok k) (hi : i < s.size) (hs : s.size ≤ 9223372036854775000)
    (hS : Blk w gs 9 #[.string s]) (hD : Blk w gd 25 #[.slice Ac nc cc, .slice An nn cn, .slice Aa na ca]) :
    Calls Try.prog 34 #[.int .i64 i, .pointer (some ⟨gs, 0, none⟩), .pointer (some ⟨gd, 0, none⟩)] w
      fun e w' => e = .returned (.agg #[.int .i64 (tokAt d s i).kind, .int .i64 (tokAt d s i).pos, .string (tokAt d s i).text, .int .i64 (tokAt d s i).look]) ∧ Below w.heap.size w w' := by
  have hpos := ho.pos
  have HP : Hid (if (0 : Int) < 0 then ((-1 : Int), 1, 0) = scan0 d s i else scan d s i (s.size - i - 0) (0 : Int).toNat 0 (-1) 1 = scan0 d s i) := by
    show if (0 : Int) < 0 then ((-1 : Int), 1, 0) = scan0 d s i else scan d s i (s.size - i - 0) (0 : Int).toNat 0 (-1) 1 = scan0 d s i
    rw [if_neg (by omega)]; rfl
  have hbc := hd.bc
  have hbn := hd.bn
  have hba := hd.ba
  have HD := Lib.hid (hd.more hB)
  have hSl := hS.lt
  have hDl := hD.lt
  have s0 := hS.cell 0
  simp at s0
  simp only [maxLen] at hbc hbn hba
  clear hd
  go_enter Try.func34, Try.ntmps34
  go_wp2_with fail
  go_loopw [6, 7] (fun a b wr => ∃ (st : Int) (look size : Nat) (kind : Int), -1 ≤ st ∧ st < d.next.length ∧ (0 ≤ st → i + look ≤ s.size) ∧ i + look ≤ s.size + 1 ∧ 1 ≤ size ∧ i + size ≤ s.size ∧ a = .int .i64 st ∧ b = .int .i64 (i + look : Nat) ∧
      Blk wr w.heap.size 47 #[.int .i64 0, .int .i64 0, .string ⟨#[]⟩, .int .i64 0] ∧
      Blk wr (w.heap.size + 1) 47 #[.int .i64 kind, .int .i64 i, .string (s.extract i (i + size)), .int .i64 look] ∧
      Below w.heap.size w wr ∧ Hid (DfaAt wr w.heap.size ⟨Ac, nc, cc, An, nn, cn, Aa, na, ca⟩ d) ∧
      Hid (if st < 0 then (kind, size, look) = scan0 d s i else scan d s i (s.size - i - look) st.toNat look kind size = scan0 d s i)) (fun _ b _ => s.size + 2 - (intOf b).toNat)
  case atStart =>
    refine ⟨0, 0, 1, -1, by omega, by omega, by omega, by omega, by omega, by omega, rfl, rfl, ?_, ?_, ?_, ?_, HP⟩
    · exact (Blk.new' w _ _ rfl).alloc _
    · exact Blk.new' (w.alloc _) _ _ (by simp)
    · exact ((Below.refl _ _).alloc (Nat.le_refl _) _).alloc (by simp) _
    · exact (HD.out.alloc (Nat.le_refl _) _).alloc (by simp) _
  case round =>
    obtain ⟨st, look, size, kind, hst1, hst, hlook, hlook2, hsz1, hsz, rfl, rfl, B1, B2, hb, HDr, HS⟩ := hrel
    clear HD HP
    have t0 := B2.cell 0
    have t1 := B2.cell 1
    have t2 := B2.cell 2
    have t3 := B2.cell 3
    have tf := B2.frozen 3
    have r0 := B1.cell 0
    have r1 := B1.cell 1
    have r2 := B1.cell 2
    have r3 := B1.cell 3
    have f0 := B1.frozen 0
    have f1 := B1.frozen 1
    have f2 := B1.frozen 2
    have f3 := B1.frozen 3
    simp at t0 t1 t2 t3 r0 r1 r2 r3
    by_cases hst0 : st < 0
    · have e1 := HS.out
      rw [if_pos hst0] at e1
      have e2 : tokAt d s i = ⟨kind, i, s.extract i (i + size), look⟩ := by simp [tokAt, ← e1]
      have E2 := Lib.hid e2
      have hdec : decide (0 ≤ st) = false := by simp; omega
      clear e1 e2
      go_wp2_with fail
      have b2 := B1.set4 (.int .i64 kind) (.int .i64 i) (.string (s.extract i (i + size))) (.int .i64 look)
      refine bodyPost_ret (results_tok rfl rfl (b2.cell 0) (b2.cell 1) (b2.cell 2) (b2.cell 3)) rfl ⟨by rw [E2.out], ?_⟩
      exact (((hb.setCell (by simp) _).setCell (by simp) _).setCell (by simp) _).setCell (by simp) _
    obtain ⟨st, rfl⟩ := Int.eq_ofNat_of_zero_le (Int.not_lt.1 hst0)
    have hsd : decide ((0 : Int) ≤ (st : Int)) = true := by simp
    have HS1 := HS.out
    rw [if_neg hst0, Int.toNat_natCast] at HS1
    have HS := Lib.hid HS1
    have hstl : st < d.next.length := by omega
    have hlk := hlook (by omega)
    clear HS1 hlook hst0 hst1 hst
    have S' := hS.below hb hSl
    have D' := hD.below hb hDl
    have k0 := S'.cell 0
    simp at k0
    by_cases he : i + look = s.size
    · have he' : ((i : Int) + (look : Int) == (s.size : Int)) = true := by simp; omega
      have e1 := HS.out.symm.trans (scan_end d s i st look kind size _ (by omega))
      have e2 : tokAt d s i = ⟨kind, i, s.extract i (i + size), look + 1⟩ := by simp [tokAt, e1]
      have E2 := Lib.hid e2
      have HE := Lib.hid he
      have k1 := (S'.far (p := ⟨w.heap.size + 1, 3, none⟩) (by simp; omega) (.int .i64 ((look : Int) + 1))).cell 0
      simp at k1
      clear he e1 e2
      go_wp2_with fail
      have b2 := (B1.far (p := ⟨w.heap.size + 1, 3, none⟩) (by simp) (.int .i64 ((look : Int) + 1))).set4 (.int .i64 kind) (.int .i64 i) (.string (s.extract i (i + size))) (.int .i64 ((look : Int) + 1))
      refine bodyPost_ret (results_tok rfl rfl (b2.cell 0) (b2.cell 1) (b2.cell 2) (b2.cell 3)) rfl ⟨by rw [E2.out], ?_⟩
      exact ((((hb.setCell (by simp) _).setCell (by simp) _).setCell (by simp) _).setCell (by simp) _).setCell (by simp) _
    · have hlt : i + look < s.size := by omega
      have he' : ((i : Int) + (look : Int) == (s.size : Int)) = false := by simp; omega
      have HL := Lib.hid hlt
      have HE := Lib.hid he
      clear he
      have w2 : (0 : Int) ≤ (i : Int) + look := by omega
      have w3 : ((i : Int) + look).toNat = i + look := by omega
      have w4 : (i : Int) + (look : Int) < (s.size : Int) := by omega
      have hbd := ho.to_bd hstl (s[i + look]'hlt)
      have hbe : d.to st (byteAt s (i + look)) = d.to st (s[i + look]'hlt) := by rw [byteAt_eq s _ hlt]
      have HBE := Lib.hid hbe
      clear hbe
      have S1 := S'.far (p := ⟨w.heap.size + 1, 3, none⟩) (by simp; omega) (.int .i64 ((look : Int) + 1))
      have D1 := D'.far (p := ⟨w.heap.size + 1, 3, none⟩) (by simp; omega) (.int .i64 ((look : Int) + 1))
      have T2 := B2.set_ 3 (.int .i64 ((look : Int) + 1))
      have T1 := B1.far (p := ⟨w.heap.size + 1, 3, none⟩) (by simp) (.int .i64 ((look : Int) + 1))
      have hb1 := hb.setCell (p := ⟨w.heap.size + 1, 3, none⟩) (by simp) (.int .i64 ((look : Int) + 1))
      have HD1 := HDr.out.keep (w' := wr.setCell ⟨w.heap.size + 1, 3, none⟩ (.int .i64 ((look : Int) + 1))) (fun p hp => World.cell?_setCell_other _ _ _ _ (fun e => by subst e; simp at hp; omega))
      obtain ⟨W1, hW1⟩ : ∃ W1, wr.setCell ⟨w.heap.size + 1, 3, none⟩ (.int .i64 ((look : Int) + 1)) = W1 := ⟨_, rfl⟩
      rw [hW1] at S1 D1 T2 T1 hb1 HD1
      have WW := Lib.hid hW1
      clear hW1
      simp at T2
      have a0 := S1.cell 0
      have a1 := D1.cell 0
      have a2 := D1.cell 1
      have a3 := D1.cell 2
      simp at a0 a1 a2 a3
      have v0 := T2.cell 0
      have v1 := T2.cell 1
      have v2 := T2.cell 2
      have v3 := T2.cell 3
      have vf0 := T2.frozen 0
      have vf2 := T2.frozen 2
      simp at v0 v1 v2 v3
      obtain ⟨bc, oc, bn, on, br, or_, n, c, cl, q2, q1, l2, l1, l3, hsn, hbn', hcn, hn, c2, c1, c3⟩ := HD1.step_at ho hstl (s[i + look]'hlt)
      simp only at q1 q2 hsn hbn'
      subst q1; subst q2
      simp only [maxLen] at hn
      by_cases hx : d.to st (s[i + look]'hlt) < 0
      · have hdec : decide (0 ≤ d.to st (s[i + look]'hlt)) = false := by simp; omega
        have e1 := HS.out.symm.trans (scan_stop d s i st look kind size _ (by omega) (by rw [HBE.out]; exact hx))
        have E1 := Lib.hid e1
        clear e1
        go_wp2_with fail
        rw [WW.out]
        go_quiet (fail)
        go_wp2_with fail
        go_roundw
        case rel =>
          refine ⟨d.to st (s[i + look]'hlt), look + 1, size, kind, by omega, by omega, by omega, by omega, hsz1, hsz, rfl, by go_num, T1.drewN _, T2.drewN _, below_drewN hb1 _, HD1.drewN _, ?_⟩
          show if _ then _ else _
          rw [if_pos hx]; exact E1.out.symm
        case measure => simp [intOf]; omega
      · obtain ⟨x, hxe⟩ := Int.eq_ofNat_of_zero_le (Int.not_lt.1 hx)
        have hxl : x < d.next.length := by omega
        have hX : d.to st (byteAt s (i + look)) = x := by rw [HBE.out]; exact hxe
        have HX := Lib.hid hX
        rw [hxe] at c3
        have hxd : decide ((0 : Int) ≤ (x : Int)) = true := by simp
        obtain ⟨ba, oa, q3, l4, hxn, c4⟩ := HD1.acc_at ho hxl
        simp only at q3 hxn
        subst q3
        clear hxe hX hx hbd
        by_cases ha : 0 ≤ d.ac x
        · have had : decide (0 ≤ d.ac x) = true := by simp [ha]
          have hm : i + (look + 1) ≤ s.size := by omega
          go_wp2_with fail
          rw [WW.out]
          go_quiet (fail)
          go_wp2_with fail
          go_region
          all_goals go_wp2_with fail
          all_goals go_roundw
          case rel =>
            refine ⟨x, look + 1, look + 1, d.ac x, by omega, by omega, by omega, by omega, by omega, by omega, rfl, by go_num, ((T1.drewN _).far (by simp) _).far (by simp) _, ?_, ((below_drewN hb1 _).setCell (by simp) _).setCell (by simp) _, ((HD1.drewN _).setCell (by simp) _).setCell (by simp) _, ?_⟩
            · have h2 : ∀ q, Blk (((W1.drewN q).setCell ⟨w.heap.size + 1, 0, none⟩ (.int .i64 (d.ac x))).setCell ⟨w.heap.size + 1, 2, none⟩ (.string (s.extract i (i + (look + 1))))) (w.heap.size + 1) 47 #[.int .i64 (d.ac x), .int .i64 i, .string (s.extract i (i + (look + 1))), .int .i64 ((look : Int) + 1)] := fun q => by
                have := ((T2.drewN q).set_ 0 (.int .i64 (d.ac x))).set_ 2 (.string (s.extract i (i + (look + 1))))
                simpa using this
              exact h2 _
            · show if _ then _ else _
              rw [if_neg (by omega), Int.toNat_natCast]
              exact (scan_acc d s i st look kind size (s.size - i - look) (s.size - i - (look + 1)) x (by omega) HX.out ha).symm.trans HS.out
          case measure => simp [intOf]; omega
        · have had : decide (0 ≤ d.ac x) = false := by simp; omega
          go_wp2_with fail
          rw [WW.out]
          go_quiet (fail)
          go_wp2_with fail
          go_roundw
          case rel =>
            refine ⟨x, look + 1, size, kind, by omega, by omega, by omega, by omega, hsz1, hsz, rfl, by go_num, T1.drewN _, T2.drewN _, below_drewN hb1 _, HD1.drewN _, ?_⟩
            show if _ then _ else _
            rw [if_neg (by omega), Int.toNat_natCast]
            exact (scan_go d s i st look kind size (s.size - i - look) (s.size - i - (look + 1)) x (by omega) HX.out (by omega)).symm.trans HS.out
          case measure => simp [intOf]; omega
end Go.Proofs.Ythpdfgfefmoaaaa
