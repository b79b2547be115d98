/- RelexRetains returns true. -/
import Derived.Test.YthpdfgfefmoaaaaRelLaw0
import Derived.Test.YthpdfgfefmoaaaaRText
import Derived.Test.YthpdfgfefmoaaaaExt
namespace Go.Proofs.Ythpdfgfefmoaaaa
open Go.RowKit

set_option maxRecDepth 100000 in
set_option maxHeartbeats 4000000 in
theorem lawRRet_any (v : DfaV) (d : Dfa) (B : Nat) (s t : ByteArray) (i j : Int) (w : World) (hd : DfaAt w B v d) (hB : B ≤ w.heap.size) (hs : s.size ≤ maxLen) (ht : t.size ≤ maxLen) :
    Calls Try.prog 5 #[.agg #[.slice v.Ac v.nc v.cc, .slice v.An v.nn v.cn, .slice v.Aa v.na v.ca, .string s, .int .i64 i, .int .i64 j, .string t]] w fun e w' => e = .returned (.bool true) ∧ Below w.heap.size w w' := by
  have hec := run_eql_change
  have hneq := fun w => run_neq_tok w
  have HD := Lib.hid ((hd.more hB).alloc (Nat.le_refl _) (.cells (askC v s i j t) 29))
  have K := Blk.new' w 29 (askC v s i j t) rfl
  have hb0 : Below w.heap.size w (w.alloc (.cells (askC v s i j t) 29)) := (Below.refl _ _).alloc (Nat.le_refl _) _
  simp only [askC] at K HD hb0
  clear hd
  go_enter Try.func5, Try.ntmps5
  go_wp2_with fail
  refine (may_any v d w.heap.size s t i j _ HD.out (by simp) hs ht).mono ?_
  rintro e w1 ⟨b, rfl, hok, hb1⟩
  simp only [World.size_alloc] at hb1
  have K1 := K.below hb1 (by omega)
  have hs1 := hb1.size
  simp only [World.size_alloc] at hs1
  have HD1 := Lib.hid (HD.out.below (hb1.mono (by omega)))
  have hbw1 : Below w.heap.size w w1 := hb0.trans (hb1.mono (by omega))
  obtain ⟨k0, k1, k2, k3, k4, k5, k6⟩ := ask_cells K1
  clear K HD hb0
  cases b with
  | false =>
    go_wp2_with fail
    refine (awake_any _).mono ?_
    rintro e w2 ⟨rfl, hb2⟩
    go_wp2_with fail
    go_ret
    exact ⟨rfl, hbw1.trans (hb2.mono (by omega))⟩
  | true =>
    obtain ⟨⟨k, ho⟩, hs100, ht30⟩ := hok rfl
    clear hok
    go_wp2_with fail
    refine (rfits_any s.size i j t w1 hs).mono ?_
    rintro e wf ⟨rfl, hbf⟩
    replace K1 := K1.below hbf (by omega)
    replace HD1 := Lib.hid (HD1.out.below (hbf.mono (by omega)))
    replace hbw1 := hbw1.trans (hbf.mono (by omega))
    have hsf := hbf.size
    replace hs1 : w.heap.size + 1 ≤ wf.heap.size := by omega
    clear k0 k1 k2 k3 k4 k5 k6 hb1 hbf hsf
    obtain ⟨k0, k1, k2, k3, k4, k5, k6⟩ := ask_cells K1
    cases hok : Ed.ok s.size ⟨i, j, t⟩ with
    | false =>
      go_wp2_with fail
      refine (awake_any _).mono ?_
      rintro e w2 ⟨rfl, hb2⟩
      go_wp2_with fail
      go_ret
      exact ⟨rfl, hbw1.trans (hb2.mono (by omega))⟩
    | true =>
      go_wp2_with fail
      refine (refLex_any v d k w.heap.size s wf HD1.out (by omega) ho (by omega)).mono ?_
      rintro e w2 ⟨A, c, rfl, hc1, hc2, r2, hb2⟩
      have hs2 := hb2.size
      have K2 := K1.below hb2 (by omega)
      have HD2 := Lib.hid (HD1.out.below (hb2.mono (by omega)))
      obtain ⟨k0, k1, k2, k3, k4, k5, k6⟩ := ask_cells K2
      have hbw2 : Below w.heap.size w w2 := hbw1.trans (hb2.mono (by omega))
      have HR2 := Lib.hid r2
      obtain ⟨n, hn⟩ : ∃ n, n = (lexL d s).length := ⟨_, rfl⟩
      have HN := Lib.hid hn
      have hns := lexL_len d s
      rw [← hn] at hc1 HR2 hns ⊢
      clear hn r2 K1 HD1 hb2
      obtain ⟨hk1, hk2, hk3, hk4⟩ := Ed.ok_iff.1 hok
      simp only at hk1 hk2 hk3 hk4
      obtain ⟨P, rfl⟩ := Int.eq_ofNat_of_zero_le hk1
      obtain ⟨D, rfl⟩ := Int.eq_ofNat_of_zero_le hk2
      clear hk1 hk2
      go_wp2_with fail
      refine (updateOk_any v d k w2.heap.size s A n c P D t w2 (HD2.out.more (by omega)) ho HR2.out (Nat.le_refl _) hc1 hc2 (by omega) hok).mono ?_
      rintro e w3 ⟨A3, c3, m, q, rfl, hc3, hm3, r3, hf, hb3⟩
      have hs3 := hb3.size
      have hpl := preL_le P (lexL d s)
      have hpre : preL (⟨P, D, t⟩ : Ed).pos (lexL d s) = preL P (lexL d s) := rfl
      rw [hpre]
      obtain ⟨f, hff⟩ : ∃ f, f = preL P (lexL d s) := ⟨_, rfl⟩
      have HPR := Lib.hid hff
      obtain ⟨nL, hnL⟩ : ∃ nL, nL = (lexL d (apT s ⟨P, D, t⟩)).length := ⟨_, rfl⟩
      have HNL := Lib.hid hnL
      have HFI := Lib.hid hf
      rw [← HN.out] at hpl
      rw [← hff] at hpl ⊢
      rw [← hnL] at hc3 r3 ⊢
      obtain ⟨o, rfl⟩ : ∃ o, q = f + o := ⟨q - f, by have := HFI.out.meet.fk hok; rw [show preL (⟨P, D, t⟩ : Ed).pos (lexL d s) = f from HPR.out.symm] at this; omega⟩
      obtain ⟨p, rfl⟩ : ∃ p, m = f + p := ⟨m - f, by have := HFI.out.meet.fm; rw [show preL (⟨P, D, t⟩ : Ed).pos (lexL d s) = f from HPR.out.symm] at this; omega⟩
      rw [show ((f + o : Nat) : Int) - (f : Int) = (o : Int) by omega, show ((f + p : Nat) : Int) - (f : Int) = (p : Int) by omega]
      have K3 := (K2.below hb3 (by omega)).alloc (.cells #[.int .i64 f, .int .i64 o, .int .i64 p] 35)
      have X3 := Blk.new' w3 35 #[.int .i64 f, .int .i64 o, .int .i64 p] rfl
      have HD3 := Lib.hid ((HD2.out.below (hb3.mono (by omega))).alloc (B := w.heap.size) (by omega) (.cells #[.int .i64 f, .int .i64 o, .int .i64 p] 35))
      have HR3 := Lib.hid ((HR2.out.below hb3).alloc hs3 (.cells #[.int .i64 f, .int .i64 o, .int .i64 p] 35))
      have HL3 := Lib.hid (r3.alloc (Nat.le_refl _) (.cells #[.int .i64 f, .int .i64 o, .int .i64 p] 35))
      have hbw3 : Below w.heap.size w (w3.alloc (.cells #[.int .i64 f, .int .i64 o, .int .i64 p] 35)) := (hbw2.trans (hb3.mono (by omega))).alloc (by omega) _
      obtain ⟨k0, k1, k2, k3, k4, k5, k6⟩ := ask_cells K3
      clear hff hnL hf r3 K2 HD2 HR2 hpre
      have hfn : f ≤ n := hpl
      have hlen : nL + (f + o) = n + (f + p) := by have := HFI.out.meet.len hok; rw [← HNL.out, ← HN.out] at this; exact this
      have hon : f + o ≤ n := by have := HFI.out.meet.kl; rw [← HN.out] at this; exact this
      have hpn : f + p ≤ nL := by have := HFI.out.meet.ml; rw [← HNL.out] at this; exact this
      have hnL : nL ≤ s.size + t.size := by have h1 := lexL_len d (apT s ⟨P, D, t⟩); have h2 := apT_size_ok hok; simp only at h2; rw [← HNL.out] at h1; omega
      have d1 : decide ((f : Int) < 0) = false := by simp
      have d2 : decide ((o : Int) < 0) = false := by simp
      have d3 : decide ((p : Int) < 0) = false := by simp
      have v1 : IntKind.i64.wrap ((f : Int) + o) = (f : Int) + o := IntWalk.i64_in _ (by omega)
      have v2 : IntKind.i64.wrap ((n : Int) - o) = (n : Int) - o := IntWalk.i64_in _ (by omega)
      have v3 : IntKind.i64.wrap ((n : Int) - o + p) = (nL : Int) := by rw [show (n : Int) - o + p = (nL : Int) by omega]; exact IntWalk.i64_in _ (by omega)
      have v4 : IntKind.i64.wrap ((f : Int) + p) = (f : Int) + p := IntWalk.i64_in _ (by omega)
      have d4 : decide ((n : Int) < (f : Int) + o) = false := by simp; omega
      have bnn : (((nL : Int)) == (nL : Int)) = true := beq_self_eq_true _
      have e0 := X3.cell 0
      have e1 := X3.cell 1
      have e2 := X3.cell 2
      simp at e0 e1 e2
      go_wp2_with fail
      obtain ⟨w4, hw4⟩ : ∃ w4, w3.alloc (.cells #[.int .i64 f, .int .i64 o, .int .i64 p] 35) = w4 := ⟨_, rfl⟩
      have hs4 : w3.heap.size < w4.heap.size := by rw [← hw4]; simp
      rw [hw4] at K3 X3 HD3 HR3 HL3 hbw3 k0 k1 k2 k3 k4 k5 k6
      have x0 := X3.cell 0
      have x1 := X3.cell 1
      have x2 := X3.cell 2
      simp at x0 x1 x2
      try rw [hw4]
      clear hw4 e0 e1 e2
      clear x0 x1 x2 k0 k1 k2 k3 k4 k5 k6
      go_loopw [7] (fun a wr => ∃ i : Nat, i ≤ nL ∧ a = .int .i64 i ∧ Below w4.heap.size w4 wr) (fun a _ => nL - (intOf a).toNat)
      case atStart => exact ⟨0, by omega, rfl, Below.refl _ _⟩
      case round =>
        obtain ⟨i, hi, rfl, hbr⟩ := hrel
        have hsr := hbr.size
        have Xr := X3.below hbr X3.lt
        have Kr := K3.below hbr K3.lt
        have HRr := Lib.hid (HR3.out.below (hbr.mono (by omega)))
        have HLr := Lib.hid (HL3.out.below (hbr.mono (by omega)))
        have hbw5 : Below w.heap.size w wr := hbw3.trans (hbr.mono (by omega))
        have z0 := Xr.cell 0
        have z1 := Xr.cell 1
        have z2 := Xr.cell 2
        simp at z0 z1 z2
        by_cases hlt : i < nL
        · have hltD : decide (i < nL) = true := by simp [hlt]
          by_cases hif : i < f
          · have hifD : decide (i < f) = true := by simp [hif]
            obtain ⟨b, off, y, rfl, _, hy, h0, h1, h2, h3⟩ := HRr.out.tok_at (k := i) (by omega)
            obtain ⟨b2, off2, y2, rfl, _, hy2, g0, g1, g2, g3⟩ := HLr.out.tok_at (k := i) hlt
            have hpa := pre_at d s ⟨P, D, t⟩ hok (i := i) (by show i < preL P (lexL d s); rw [← HPR.out]; exact hif)
            rw [hy2, hy] at hpa
            injection hpa with hpa
            subst hpa
            obtain ⟨yk, yp, yt, yl⟩ := y2
            simp only at h0 h1 h2 h3 g0 g1 g2 g3
            have heq : Tok.eqb ⟨yk, yp, yt, yl⟩ ⟨yk, yp, yt, yl⟩ = true := Tok.eqb_iff.2 rfl
            have hcD : decide ((f : Int) + p ≤ (i : Int)) = false := by simp; omega
            clear hy hy2
            go_wp2_with fail
            go_quiet (fail)
            go_wp2_with fail
            go_roundw
            case rel => exact ⟨i + 1, by omega, by go_num, below_drewN hbr _⟩
            case measure => simp [intOf]; omega
          · have hifD : decide (i < f) = false := by simp [hif]
            by_cases him : i < f + p
            · have hcD : decide ((f : Int) + p ≤ (i : Int)) = false := by simp; omega
              go_wp2_with fail
              go_quiet (fail)
              go_wp2_with fail
              go_roundw
              case rel => exact ⟨i + 1, by omega, by go_num, below_drewN hbr _⟩
              case measure => simp [intOf]; omega
            · have hcD : decide ((f : Int) + p ≤ (i : Int)) = true := by simp; omega
              obtain ⟨j, rfl⟩ : ∃ j, i = f + p + j := ⟨i - (f + p), by omega⟩
              obtain ⟨k', hk'⟩ : ∃ k', k' = f + o + j := ⟨_, rfl⟩
              have hkn : k' < n := by omega
              obtain ⟨i', hi'⟩ : ∃ i', i' = f + p + j := ⟨_, rfl⟩
              rw [← hi'] at hlt hltD hif hifD hcD hi ⊢
              have HI := Lib.hid hi'
              have HK := Lib.hid hk'
              clear hi' hk'
              go_wp2_with fail
              go_quiet (fail)
              obtain ⟨wq, hwq⟩ : ∃ wq, wr.drewN nq = wq := ⟨_, rfl⟩
              rw [hwq]
              have hbq : Below w4.heap.size w4 wq := by rw [← hwq]; exact below_drewN hbr _
              clear hwq HRr HLr Kr Xr z0 z1 z2 hbr hsr hbw5
              clear wr
              have hsq := hbq.size
              have Xr := X3.below hbq X3.lt
              have Kr := K3.below hbq K3.lt
              have HRr := Lib.hid (HR3.out.below (hbq.mono (by omega)))
              have HLr := Lib.hid (HL3.out.below (hbq.mono (by omega)))
              have z0 := Xr.cell 0
              have z1 := Xr.cell 1
              have z2 := Xr.cell 2
              simp at z0 z1 z2
              obtain ⟨b, off, y, rfl, hbB, hy, h0, h1, h2, h3⟩ := HRr.out.tok_at (k := k') hkn
              have hyp := lexL_pos d s hy
              have hyt := lexL_size d s hy
              have hmt := HFI.out.meet.tok hok (j := j) (t := y) (by rw [← HK.out]; exact hy)
              have hop := lexL_pos d _ hmt
              have hot := lexL_size d _ hmt
              have hsz := apT_size_ok hok
              simp only [Tok.mv] at hop hsz
              rw [← HI.out] at hmt hop hot
              obtain ⟨b2, off2, y2, rfl, hb2B, hy2, g0, g1, g2, g3⟩ := HLr.out.tok_at (k := i') hlt
              rw [hy2] at hmt
              injection hmt with hmt
              subst hmt
              simp only [Tok.mv] at g0 g1 g2 g3 hot
              rw [hop] at g1
              generalize offs (lexL d s) k' = o1 at hyp hyt
              generalize offs (lexL d (apT s ⟨P, D, t⟩)) i' = o2 at g1 hop hot
              obtain ⟨yk, yp, yt, yl⟩ := y
              simp only at h0 h1 h2 h3 g0 g1 g2 g3 hyp hyt hop hot
              subst hyp
              have heq : Tok.eqb ⟨yk, o2, yt, yl⟩ ⟨yk, o2, yt, yl⟩ = true := Tok.eqb_iff.2 rfl
              have u1 : IntKind.i64.wrap ((i' : Int) - p) = (i' : Int) - p := IntWalk.i64_in _ (by omega)
              have u2 : IntKind.i64.wrap ((i' : Int) - p + o) = (k' : Int) := by
                have := HI.out
                have := HK.out
                rw [show (i' : Int) - p + o = (k' : Int) by omega]
                exact IntWalk.i64_in _ (by omega)
              have u3 : IntKind.i64.wrap ((o1 : Int) + t.size) = (o1 : Int) + t.size := IntWalk.i64_in _ (by omega)
              have u4 : IntKind.i64.wrap ((o1 : Int) + t.size - D) = (o2 : Int) := by rw [show (o1 : Int) + t.size - D = (o2 : Int) by omega]; exact IntWalk.i64_in _ (by omega)
              obtain ⟨j0, j1, j2, j3, j4, j5, j6⟩ := ask_cells (Kr.alloc (.cells #[.int .i64 yk, .int .i64 o1, .string yt, .int .i64 yl] 47))
              clear hy hy2 hyt hot hop
              go_wp2_with fail
              obtain ⟨w6, hw6⟩ : ∃ w6, wq.alloc (.cells #[.int .i64 yk, .int .i64 o2, .string yt, .int .i64 yl] 47) = w6 := ⟨_, rfl⟩
              have hb6 : Below wq.heap.size wq w6 := by rw [← hw6]; exact (Below.refl _ _).alloc (Nat.le_refl _) _
              have Z6 : Blk w6 wq.heap.size 47 #[.int .i64 yk, .int .i64 o2, .string yt, .int .i64 yl] := by rw [← hw6]; exact Blk.new' _ _ _ rfl
              rw [hw6]
              have g0 := ((bcell hb6).1 _ _ (by omega)).trans g0
              have g1 := ((bcell hb6).1 _ _ (by omega)).trans g1
              have g2 := ((bcell hb6).1 _ _ (by omega)).trans g2
              have g3 := ((bcell hb6).1 _ _ (by omega)).trans g3
              have y0 := Z6.cell 0
              have y1 := Z6.cell 1
              have y2 := Z6.cell 2
              have y3 := Z6.cell 3
              simp at y0 y1 y2 y3
              clear hw6
              go_quiet (fail)
              go_wp2_with fail
              go_roundw
              case rel => exact ⟨i' + 1, by omega, by go_num, below_drewN (hbq.trans (hb6.mono (by omega))) _⟩
              case measure => simp [intOf]; omega
        · have hltD : decide (i < nL) = false := by simp [hlt]
          go_wp2_with fail
          refine (awake_any _).mono ?_
          rintro e w6 ⟨rfl, hb6⟩
          go_wp2_with fail
          go_ret
          exact ⟨rfl, hbw5.trans (hb6.mono (by omega))⟩
end Go.Proofs.Ythpdfgfefmoaaaa
