/- The token at an offset, as the lexer's 'one' finds it, is the one that 'scan' finds. -/
import Derived.Test.YtdpdggmafmebeaaScan
import Derived.StillTailTactics
namespace Go.Proofs.Ytdpdggmafmebeaa
open Go.RowKit

set_option maxHeartbeats 1000000 in
theorem step_any (Ac An Aa : Option Addr) (nc cc nn cn na ca : Nat) (d : Dfa) (k B g st : Nat) (b : UInt8) (w : World) (hd : DfaAt w B ⟨Ac, nc, cc, An, nn, cn, Aa, na, ca⟩ d) (ho : d.Ok k) (hst : st < d.next.length)
    (hb : Blk w g 51 #[.slice Ac nc cc, .slice An nn cn, .slice Aa na ca, .int .i64 st]) :
    Calls Try.prog 26 #[.pointer (some ⟨g, 0, none⟩), .int .u8 b.toNat] w
      fun e w' => e = .returned (.bool (decide (0 ≤ d.to st b))) ∧ ∃ nd, w' = (w.drewN nd).setCell ⟨g, 3, none⟩ (.int .i64 (d.to st b)) := by
  obtain ⟨bc, oc, bn, on, br, or_, n, c, cl, q2, q1, l2, l1, l3, hsn, hbn', hcn, hn, c2, c1, c3⟩ := hd.step_at ho hst b
  simp only at q1 q2 hsn hbn'
  subst q1; subst q2
  have hbc := hd.bc
  have hbn := hd.bn
  simp only [maxLen] at *
  have k0 := hb.cell 0
  have k1 := hb.cell 1
  have k3 := hb.cell 3
  have kf := hb.frozen 3
  simp at k0 k1 k3
  clear hd
  go_enter Try.func26, Try.ntmps26
  go_wp2_with fail
  go_still_tail 24, (by kernel_rfl)
  change wpList _ _ _ _ _ w.drew
  go_wp2_with fail
  go_ret
  exact ⟨rfl, 1, rfl⟩

/-- The same, said of blocks. -/
theorem step_blk (Ac An Aa : Option Addr) (nc cc nn cn na ca : Nat) (d : Dfa) (k B g st : Nat) (b : UInt8) (w : World) (hd : DfaAt w B ⟨Ac, nc, cc, An, nn, cn, Aa, na, ca⟩ d) (ho : d.Ok k) (hst : st < d.next.length)
    (hb : Blk w g 51 #[.slice Ac nc cc, .slice An nn cn, .slice Aa na ca, .int .i64 st]) :
    Calls Try.prog 26 #[.pointer (some ⟨g, 0, none⟩), .int .u8 b.toNat] w
      fun e w' => e = .returned (.bool (decide (0 ≤ d.to st b))) ∧ Blk w' g 51 #[.slice Ac nc cc, .slice An nn cn, .slice Aa na ca, .int .i64 (d.to st b)] ∧ w.grownBy w' (some g) := by
  refine (step_any Ac An Aa nc cc nn cn na ca d k B g st b w hd ho hst hb).mono ?_
  rintro e w' ⟨rfl, nd, rfl⟩
  refine ⟨rfl, ?_, ?_⟩
  · have := (hb.drewN nd).set_ 3 (.int .i64 (d.to st b))
    simpa using this
  · exact ⟨rfl, rfl, rfl, by simp, fun j hj hne => Below.heap_setCell _ _ _ _ (fun e => hne (by simp [e]))⟩

set_option maxHeartbeats 1000000 in
theorem accepted_any (Ac An Aa : Option Addr) (nc cc nn cn na ca : Nat) (d : Dfa) (k B g st : Nat) (w : World) (hd : DfaAt w B ⟨Ac, nc, cc, An, nn, cn, Aa, na, ca⟩ d) (ho : d.Ok k) (hst : st < d.next.length)
    (hb : Blk w g 51 #[.slice Ac nc cc, .slice An nn cn, .slice Aa na ca, .int .i64 st]) :
    Calls Try.prog 27 #[.pointer (some ⟨g, 0, none⟩)] w
      fun e w' => e = .returned (.int .i64 (d.ac st)) ∧ ∃ nd, w' = w.drewN nd := by
  obtain ⟨ba, oa, q3, l4, hxn, c4⟩ := hd.acc_at ho hst
  simp only at q3 hxn
  subst q3
  have hba := hd.ba
  simp only [maxLen] at *
  have k2 := hb.cell 2
  have k3 := hb.cell 3
  simp at k2 k3
  clear hd
  go_enter Try.func27, Try.ntmps27
  go_wp2_with fail
  go_quiet (fail)
  go_wp2_with fail
  go_ret
  exact ⟨rfl, drew1 _ _⟩

set_option maxHeartbeats 1000000 in
theorem one_any (v : DfaV) (d : Dfa) (k B i : Nat) (s : ByteArray) (w : World) (hd : DfaAt w B v d) (hB : B ≤ w.heap.size) (ho : d.Ok k) (hi : i < s.size) (hs : s.size ≤ 9223372036854775000) :
    Calls Try.prog 22 #[.agg #[.slice v.Ac v.nc v.cc, .slice v.An v.nn v.cn, .slice v.Aa v.na v.ca], .string s, .int .i64 i] w
      fun e w' => e = .returned (.agg #[.int .i64 (tokAt d s i).kind, .int .i64 (tokAt d s i).pos, .string (tokAt d s i).text, .int .i64 (tokAt d s i).look]) ∧ Below w.heap.size w w' := by
  have hpos := ho.pos
  have HP : Hid (scan d s i (s.size - i - 0) 0 0 (-1) 1 = scan0 d s i) := rfl
  have hbc := hd.bc
  have hbn := hd.bn
  have hba := hd.ba
  have hd0 := hd.more hB
  have HD := Lib.hid hd0
  obtain ⟨Ac, nc, cc, An, nn, cn, Aa, na, ca⟩ := v
  simp only [maxLen] at *
  clear hd hd0
  go_enter Try.func22, Try.ntmps22
  go_wp2_with fail
  go_loopw [10] (fun a wr => ∃ (st look size : Nat) (kind : Int), st < d.next.length ∧ i + look ≤ s.size ∧ 1 ≤ size ∧ i + size ≤ s.size ∧ a = .int .i64 (i + look : Nat) ∧
      Blk wr (w.heap.size + 1) 32 #[.int .i64 0, .int .i64 0, .string ⟨#[]⟩, .int .i64 0] ∧
      Blk wr (w.heap.size + 1 + 1) 32 #[.int .i64 kind, .int .i64 i, .string (s.extract i (i + size)), .int .i64 look] ∧
      Blk wr (w.heap.size + 1 + 1 + 1) 51 #[.slice Ac nc cc, .slice An nn cn, .slice Aa na ca, .int .i64 st] ∧
      Below w.heap.size w wr ∧ Hid (DfaAt wr w.heap.size ⟨Ac, nc, cc, An, nn, cn, Aa, na, ca⟩ d) ∧
      Hid (scan d s i (s.size - i - look) st look kind size = scan0 d s i)) (fun a _ => s.size - (intOf a).toNat)
  case atStart =>
    refine ⟨0, 0, 1, -1, hpos, by omega, by omega, by omega, rfl, ?_, ?_, ?_, ?_, ?_, HP⟩
    · exact (((Blk.new' (w.alloc _) _ _ (by simp)).alloc _).alloc _)
    · exact ((Blk.new' ((w.alloc _).alloc _) _ _ (by simp)).alloc _)
    · exact (Blk.new' (((w.alloc _).alloc _).alloc _) _ _ (by simp))
    · exact ((((Below.refl _ _).alloc (Nat.le_refl _) _).alloc (by simp) _).alloc (by simp; omega) _).alloc (by simp; omega) _
    · exact (((HD.out.alloc (Nat.le_refl _) _).alloc (by simp) _).alloc (by simp; omega) _).alloc (by simp; omega) _
  case round =>
    obtain ⟨st, look, size, kind, hst, hlook, hsz1, hsz, rfl, B1, B2, B3, hb, HDr, HS⟩ := hrel
    clear HD HP
    have t0 := B2.cell 0
    have t1 := B2.cell 1
    have t2 := B2.cell 2
    have t3 := B2.cell 3
    have tf := B2.frozen 3
    have r0 := B1.cell 0
    have r1 := B1.cell 1
    have r2 := B1.cell 2
    have r3 := B1.cell 3
    have f0 := B1.frozen 0
    have f1 := B1.frozen 1
    have f2 := B1.frozen 2
    have f3 := B1.frozen 3
    simp at t0 t1 t2 t3 r0 r1 r2 r3
    by_cases he : i + look = s.size
    · have he' : ((i : Int) + (look : Int) == (s.size : Int)) = true := by simp; omega
      have e1 := HS.out.symm.trans (scan_end d s i st look kind size _ (by omega))
      have e2 : tokAt d s i = ⟨kind, i, s.extract i (i + size), look + 1⟩ := by simp [tokAt, e1]
      have E2 := Lib.hid e2
      have HE := Lib.hid he
      clear he e1 e2
      go_wp2_with fail
      have b2 := (B1.far (p := ⟨w.heap.size + 1 + 1, 3, none⟩) (by simp) (.int .i64 ((look : Int) + 1))).set4 (.int .i64 kind) (.int .i64 i) (.string (s.extract i (i + size))) (.int .i64 ((look : Int) + 1))
      refine bodyPost_ret (results_tok rfl rfl (b2.cell 0) (b2.cell 1) (b2.cell 2) (b2.cell 3)) rfl ⟨by rw [E2.out], ?_⟩
      exact ((((hb.setCell (by simp; omega) _).setCell (by simp) _).setCell (by simp) _).setCell (by simp) _).setCell (by simp) _
    · have hlt : i + look < s.size := by omega
      have he' : ((i : Int) + (look : Int) == (s.size : Int)) = false := by simp; omega
      have HL := Lib.hid hlt
      have HE := Lib.hid he
      clear he
      have w2 : (0 : Int) ≤ (i : Int) + look := by omega
      have w3 : ((i : Int) + look).toNat = i + look := by omega
      have w4 : (i : Int) + (look : Int) < (s.size : Int) := by omega
      have hbd := ho.to_bd hst (s[i + look]'hlt)
      have hbe : d.to st (byteAt s (i + look)) = d.to st (s[i + look]'hlt) := by rw [byteAt_eq s _ hlt]
      have HBE := Lib.hid hbe
      clear hbe
      have B3' := B3.far (p := ⟨w.heap.size + 1 + 1, 3, none⟩) (by simp) (.int .i64 ((look : Int) + 1))
      have B2' := B2.set_ 3 (.int .i64 ((look : Int) + 1))
      have B1' := B1.far (p := ⟨w.heap.size + 1 + 1, 3, none⟩) (by simp) (.int .i64 ((look : Int) + 1))
      have hb' := hb.setCell (p := ⟨w.heap.size + 1 + 1, 3, none⟩) (by simp; omega) (.int .i64 ((look : Int) + 1))
      have HD' := HDr.out.keep (w' := wr.setCell ⟨w.heap.size + 1 + 1, 3, none⟩ (.int .i64 ((look : Int) + 1))) (fun p hp => World.cell?_setCell_other _ _ _ _ (fun e => by subst e; simp at hp; omega))
      simp at B2'
      by_cases hx : d.to st (s[i + look]'hlt) < 0
      · have hdec : decide (0 ≤ d.to st (s[i + look]'hlt)) = false := by simp; omega
        have e1 := HS.out.symm.trans (scan_stop d s i st look kind size _ (by omega) (by rw [HBE.out]; exact hx))
        have e2 : tokAt d s i = ⟨kind, i, s.extract i (i + size), look + 1⟩ := by simp [tokAt, e1]
        have E2 := Lib.hid e2
        clear e1 e2
        go_wp2_with (go_at_call 26; refine (step_blk Ac An Aa nc cc nn cn na ca d k w.heap.size _ st _ _ HD' ho hst B3').mono ?_; rintro e w1 ⟨rfl, B3n, hg⟩; have C1 := B1'.grown hg (by simp); have C2 := B2'.grown hg (by simp); have c0 := C2.cell 0; have c1 := C2.cell 1; have c2 := C2.cell 2; have c3 := C2.cell 3; have g0 := C2.frozen 0; have g2 := C2.frozen 2; have d0 := C1.cell 0; have d1 := C1.cell 1; have d2 := C1.cell 2; have d3 := C1.cell 3; have h0 := C1.frozen 0; have h1 := C1.frozen 1; have h2 := C1.frozen 2; have h3 := C1.frozen 3; simp at c0 c1 c2 c3 d0 d1 d2 d3; have hb2 := hb'.grown hg (by have := hb'.size; omega) (by simp; omega); have HD2 := HD'.keep (w' := w1) (fun p hp => World.cell?_of_block (hg.block p.block (by have := hb'.size; omega) (by simp; omega))))
        have b2 := C1.set4 (.int .i64 kind) (.int .i64 i) (.string (s.extract i (i + size))) (.int .i64 ((look : Int) + 1))
        refine bodyPost_ret (results_tok rfl rfl (b2.cell 0) (b2.cell 1) (b2.cell 2) (b2.cell 3)) rfl ⟨by rw [E2.out], ?_⟩
        exact (((hb2.setCell (by simp) _).setCell (by simp) _).setCell (by simp) _).setCell (by simp) _
      · obtain ⟨x, hxe⟩ := Int.eq_ofNat_of_zero_le (Int.not_lt.1 hx)
        have hdec : decide (0 ≤ d.to st (s[i + look]'hlt)) = true := by simp; omega
        have hxl : x < d.next.length := by omega
        have HX := Lib.hid hxe
        clear hxe
        by_cases ha : 0 ≤ d.ac x
        · go_wp2_with (first | (go_at_call 26; refine (step_blk Ac An Aa nc cc nn cn na ca d k w.heap.size _ st _ _ HD' ho hst B3').mono ?_; rintro e w1 ⟨rfl, B3n, hg⟩; have C1 := B1'.grown hg (by simp); have C2 := B2'.grown hg (by simp); have c0 := C2.cell 0; have c1 := C2.cell 1; have c2 := C2.cell 2; have c3 := C2.cell 3; have g0 := C2.frozen 0; have g2 := C2.frozen 2; have d0 := C1.cell 0; have d1 := C1.cell 1; have d2 := C1.cell 2; have d3 := C1.cell 3; have h0 := C1.frozen 0; have h1 := C1.frozen 1; have h2 := C1.frozen 2; have h3 := C1.frozen 3; simp at c0 c1 c2 c3 d0 d1 d2 d3; have hb2 := hb'.grown hg (by have := hb'.size; omega) (by simp; omega); have HD2 := HD'.keep (w' := w1) (fun p hp => World.cell?_of_block (hg.block p.block (by have := hb'.size; omega) (by simp; omega)))) | (go_at_call 27; rw [HX.out] at B3n; refine (accepted_any Ac An Aa nc cc nn cn na ca d k w.heap.size _ x _ HD2 ho hxl B3n).mono ?_; rintro e w2 ⟨rfl, nd, rfl⟩))
          go_region
          all_goals go_wp2_with fail
          all_goals go_roundw
          case rel =>
            refine ⟨x, look + 1, look + 1, d.ac x, hxl, by omega, by omega, by omega, by go_num, ((C1.drewN _).far (by simp) _).far (by simp) _, ?_, ((B3n.drewN _).far (by simp) _).far (by simp) _, ((below_drewN hb2 _).setCell (by simp; omega) _).setCell (by simp; omega) _,
              ((HD2.drewN _).setCell (by simp; omega) _).setCell (by simp; omega) _, (scan_acc d s i st look kind size (s.size - i - look) (s.size - i - (look + 1)) x (by omega) (by rw [HBE.out]; exact HX.out) ha).symm.trans HS.out⟩
            have := ((C2.drewN (nd + 1)).set_ 0 (.int .i64 (d.ac x))).set_ 2 (.string (s.extract i (i + look + 1)))
            simpa [Nat.add_assoc] using this
          case measure => simp [intOf]; omega
        · go_wp2_with (first | (go_at_call 26; refine (step_blk Ac An Aa nc cc nn cn na ca d k w.heap.size _ st _ _ HD' ho hst B3').mono ?_; rintro e w1 ⟨rfl, B3n, hg⟩; have C1 := B1'.grown hg (by simp); have C2 := B2'.grown hg (by simp); have c0 := C2.cell 0; have c1 := C2.cell 1; have c2 := C2.cell 2; have c3 := C2.cell 3; have g0 := C2.frozen 0; have g2 := C2.frozen 2; have d0 := C1.cell 0; have d1 := C1.cell 1; have d2 := C1.cell 2; have d3 := C1.cell 3; have h0 := C1.frozen 0; have h1 := C1.frozen 1; have h2 := C1.frozen 2; have h3 := C1.frozen 3; simp at c0 c1 c2 c3 d0 d1 d2 d3; have hb2 := hb'.grown hg (by have := hb'.size; omega) (by simp; omega); have HD2 := HD'.keep (w' := w1) (fun p hp => World.cell?_of_block (hg.block p.block (by have := hb'.size; omega) (by simp; omega)))) | (go_at_call 27; rw [HX.out] at B3n; refine (accepted_any Ac An Aa nc cc nn cn na ca d k w.heap.size _ x _ HD2 ho hxl B3n).mono ?_; rintro e w2 ⟨rfl, nd, rfl⟩))
          go_roundw
          case rel => exact ⟨x, look + 1, size, kind, hxl, by omega, by omega, by omega, by go_num, C1.drewN _, C2.drewN _, B3n.drewN _, below_drewN hb2 _, HD2.drewN _, (scan_go d s i st look kind size (s.size - i - look) (s.size - i - (look + 1)) x (by omega) (by rw [HBE.out]; exact HX.out) (by omega)).symm.trans HS.out⟩
          case measure => simp [intOf]; omega
end Go.Proofs.Ytdpdggmafmebeaa
