/- RelexPrefix returns true. -/
import Derived.Test.YthpdfgfefmoaaaaRelLaw0
import Derived.Test.YthpdfgfefmoaaaaRText
import Derived.Test.YthpdfgfefmoaaaaExt
namespace Go.Proofs.Ythpdfgfefmoaaaa
open Go.RowKit

set_option maxRecDepth 100000 in
set_option maxHeartbeats 4000000 in
theorem lawRPre_any (v : DfaV) (d : Dfa) (B : Nat) (s t : ByteArray) (i j : Int) (w : World) (hd : DfaAt w B v d) (hB : B ≤ w.heap.size) (hs : s.size ≤ maxLen) (ht : t.size ≤ maxLen) :
    Calls Try.prog 6 #[.agg #[.slice v.Ac v.nc v.cc, .slice v.An v.nn v.cn, .slice v.Aa v.na v.ca, .string s, .int .i64 i, .int .i64 j, .string t]] w fun e w' => e = .returned (.bool true) ∧ Below w.heap.size w w' := by
  have hec := run_eql_change
  have hneq := fun w => run_neq_tok w
  have HD := Lib.hid ((hd.more hB).alloc (Nat.le_refl _) (.cells (askC v s i j t) 29))
  have K := Blk.new' w 29 (askC v s i j t) rfl
  have hb0 : Below w.heap.size w (w.alloc (.cells (askC v s i j t) 29)) := (Below.refl _ _).alloc (Nat.le_refl _) _
  simp only [askC] at K HD hb0
  clear hd
  go_enter Try.func6, Try.ntmps6
  go_wp2_with fail
  refine (may_any v d w.heap.size s t i j _ HD.out (by simp) hs ht).mono ?_
  rintro e w1 ⟨b, rfl, hok, hb1⟩
  simp only [World.size_alloc] at hb1
  have K1 := K.below hb1 (by omega)
  have hs1 := hb1.size
  simp only [World.size_alloc] at hs1
  have HD1 := Lib.hid (HD.out.below (hb1.mono (by omega)))
  have hbw1 : Below w.heap.size w w1 := hb0.trans (hb1.mono (by omega))
  obtain ⟨k0, k1, k2, k3, k4, k5, k6⟩ := ask_cells K1
  clear K HD hb0
  cases b with
  | false =>
    go_wp2_with fail
    refine (awake_any _).mono ?_
    rintro e w2 ⟨rfl, hb2⟩
    go_wp2_with fail
    go_ret
    exact ⟨rfl, hbw1.trans (hb2.mono (by omega))⟩
  | true =>
    obtain ⟨⟨k, ho⟩, hs100, ht30⟩ := hok rfl
    clear hok
    go_wp2_with fail
    refine (rfits_any s.size i j t w1 hs).mono ?_
    rintro e wf ⟨rfl, hbf⟩
    replace K1 := K1.below hbf (by omega)
    replace HD1 := Lib.hid (HD1.out.below (hbf.mono (by omega)))
    replace hbw1 := hbw1.trans (hbf.mono (by omega))
    have hsf := hbf.size
    replace hs1 : w.heap.size + 1 ≤ wf.heap.size := by omega
    clear k0 k1 k2 k3 k4 k5 k6 hb1 hbf hsf
    obtain ⟨k0, k1, k2, k3, k4, k5, k6⟩ := ask_cells K1
    cases hok : Ed.ok s.size ⟨i, j, t⟩ with
    | false =>
      go_wp2_with fail
      refine (awake_any _).mono ?_
      rintro e w2 ⟨rfl, hb2⟩
      go_wp2_with fail
      go_ret
      exact ⟨rfl, hbw1.trans (hb2.mono (by omega))⟩
    | true =>
      go_wp2_with fail
      refine (refLex_any v d k w.heap.size s wf HD1.out (by omega) ho (by omega)).mono ?_
      rintro e w2 ⟨A, c, rfl, hc1, hc2, r2, hb2⟩
      have hs2 := hb2.size
      have K2 := K1.below hb2 (by omega)
      have HD2 := Lib.hid (HD1.out.below (hb2.mono (by omega)))
      obtain ⟨k0, k1, k2, k3, k4, k5, k6⟩ := ask_cells K2
      have hbw2 : Below w.heap.size w w2 := hbw1.trans (hb2.mono (by omega))
      have HR2 := Lib.hid r2
      obtain ⟨n, hn⟩ : ∃ n, n = (lexL d s).length := ⟨_, rfl⟩
      have HN := Lib.hid hn
      have hns := lexL_len d s
      rw [← hn] at hc1 HR2 hns ⊢
      clear hn r2 K1 HD1 hb2
      obtain ⟨hk1, hk2, hk3, hk4⟩ := Ed.ok_iff.1 hok
      simp only at hk1 hk2 hk3 hk4
      obtain ⟨P, rfl⟩ := Int.eq_ofNat_of_zero_le hk1
      obtain ⟨D, rfl⟩ := Int.eq_ofNat_of_zero_le hk2
      clear hk1 hk2
      go_wp2_with fail
      refine (updateOk_any v d k w2.heap.size s A n c P D t w2 (HD2.out.more (by omega)) ho HR2.out (Nat.le_refl _) hc1 hc2 (by omega) hok).mono ?_
      rintro e w3 ⟨A3, c3, m, q, rfl, hc3, hm3, r3, hf, hb3⟩
      have hs3 := hb3.size
      have hpl := preL_le P (lexL d s)
      have hpre : preL (⟨P, D, t⟩ : Ed).pos (lexL d s) = preL P (lexL d s) := rfl
      rw [hpre]
      obtain ⟨f, hff⟩ : ∃ f, f = preL P (lexL d s) := ⟨_, rfl⟩
      have HPR := Lib.hid hff
      obtain ⟨nL, hnL⟩ : ∃ nL, nL = (lexL d (apT s ⟨P, D, t⟩)).length := ⟨_, rfl⟩
      have HNL := Lib.hid hnL
      have HFI := Lib.hid hf
      rw [← HN.out] at hpl
      rw [← hff] at hpl ⊢
      rw [← hnL] at hc3 r3 ⊢
      have K3 := (K2.below hb3 (by omega)).alloc (.cells #[.int .i64 f, .int .i64 ((q : Int) - f), .int .i64 ((m : Int) - f)] 35)
      have X3 := Blk.new' w3 35 #[.int .i64 f, .int .i64 ((q : Int) - f), .int .i64 ((m : Int) - f)] rfl
      have HD3 := Lib.hid ((HD2.out.below (hb3.mono (by omega))).alloc (B := w.heap.size) (by omega) (.cells #[.int .i64 f, .int .i64 ((q : Int) - f), .int .i64 ((m : Int) - f)] 35))
      have HR3 := Lib.hid ((HR2.out.below hb3).alloc hs3 (.cells #[.int .i64 f, .int .i64 ((q : Int) - f), .int .i64 ((m : Int) - f)] 35))
      have HL3 := Lib.hid (r3.alloc (Nat.le_refl _) (.cells #[.int .i64 f, .int .i64 ((q : Int) - f), .int .i64 ((m : Int) - f)] 35))
      have hbw3 : Below w.heap.size w (w3.alloc (.cells #[.int .i64 f, .int .i64 ((q : Int) - f), .int .i64 ((m : Int) - f)] 35)) := (hbw2.trans (hb3.mono (by omega))).alloc (by omega) _
      obtain ⟨k0, k1, k2, k3, k4, k5, k6⟩ := ask_cells K3
      clear hff hnL hf r3 K2 HD2 HR2 hpre
      have hfn : f ≤ n := hpl
      have d1 : decide ((f : Int) < 0) = false := by simp
      have d2 : decide ((n : Int) < (f : Int)) = false := by simp; omega
      have e0 := X3.cell 0
      simp at e0
      go_wp2_with fail
      obtain ⟨w4, hw4⟩ : ∃ w4, w3.alloc (.cells #[.int .i64 f, .int .i64 ((q : Int) - f), .int .i64 ((m : Int) - f)] 35) = w4 := ⟨_, rfl⟩
      have hs4 : w3.heap.size < w4.heap.size := by rw [← hw4]; simp
      rw [hw4] at K3 X3 HD3 HR3 HL3 hbw3 k0 k1 k2 k3 k4 k5 k6
      have x0 := X3.cell 0
      have x1 := X3.cell 1
      have x2 := X3.cell 2
      simp at x0 x1 x2
      rw [hw4]
      clear hw4 e0
      go_loopw [7] (fun a wr => ∃ i : Nat, i ≤ f ∧ a = .int .i64 i ∧ ∃ nd, wr = w4.drewN nd) (fun a _ => f - (intOf a).toNat)
      case atStart => exact ⟨0, by omega, rfl, 0, rfl⟩
      case round =>
        obtain ⟨i, hi, rfl, nd, rfl⟩ := hrel
        by_cases hlt : i < f
        · have hltD : decide (i < f) = true := by simp [hlt]
          obtain ⟨b, off, y, rfl, _, hy, h0, h1, h2, h3⟩ := HR3.out.tok_at (k := i) (by omega)
          have hin := preL_in (i := i) (a := P) (by rw [← HPR.out]; exact hlt) hy
          have hyp := lexL_pos d s hy
          have hyl := lexL_look d s hy
          have hya := (lexL_at d s hy).1
          generalize offs (lexL d s) i = o at hyp hyl hya
          obtain ⟨yk, yp, yt, yl⟩ := y
          simp only at hyp hyl h0 h1 h2 h3 hin
          subst hyp
          have w1' : IntKind.i64.wrap ((o : Int) + yl) = (o : Int) + yl := IntWalk.i64_in _ (by omega)
          have hcD : decide ((P : Int) < (o : Int) + yl) = false := by simp; omega
          clear hy hyl
          go_wp2_with fail
          go_quiet (fail)
          go_wp2_with fail
          go_roundw
          case rel => exact ⟨i + 1, by omega, by go_num, by (try simp only [World.drewN_drewN]); exact drew1 _ _⟩
          case measure => simp [intOf]; omega
        · have hltD : decide (i < f) = false := by simp [hlt]
          have hltI : ¬ (i : Int) < (f : Int) := by omega
          obtain ⟨w5, hw5⟩ : ∃ w5, w4.drewN nd = w5 := ⟨_, rfl⟩
          have hb5 : Below w4.heap.size w4 w5 := by rw [← hw5]; exact below_drewN (Below.refl _ _) _
          have X5 := X3.below hb5 X3.lt
          have K5 := K3.below hb5 K3.lt
          have HR5 := Lib.hid (HR3.out.below (hb5.mono (by omega)))
          have hbw5 : Below w.heap.size w w5 := hbw3.trans (hb5.mono (by omega))
          rw [hw5]
          have z0 := X5.cell 0
          obtain ⟨j0, j1, j2, j3, j4, j5, j6⟩ := ask_cells K5
          simp at z0
          have hX5 := X5.lt
          have hK5 := K5.lt
          clear hw5 x0 x1 x2 k0 k1 k2 k3 k4 k5 k6
          by_cases hfe : f = n
          · subst hfe
            have hfeD : ((f : Int) == (f : Int)) = true := beq_self_eq_true _
            have e0 := ext_cell z0
            go_wp2_with fail
            refine wp_region_ext (by kernel_rfl) (by kernel_rfl) ?_
            repeat (go_big_quiet_step (exact calls_ext (awake_any _)))
            refine wpQuiet_nil ?_
            rintro _ ⟨u, rfl⟩
            go_wp2_with fail
            go_ret
            exact ⟨rfl, hbw5.trans (u.h.mono (by omega))⟩
          · have hfeD : ((f : Int) == (n : Int)) = false := by rw [beq_eq_false_iff_ne]; omega
            have hfl : f < n := by omega
            obtain ⟨b, off, y, rfl, hbB, hy, h0, h1, h2, h3⟩ := HR5.out.tok_at hfl
            have hbl : b < w5.heap.size := by have := hb5.size; omega
            have hout := preL_out (a := P) (l := lexL d s) (t := y) (by rw [← HPR.out]; exact hy)
            have hyp := lexL_pos d s hy
            have hyl := lexL_look d s hy
            have hya := (lexL_at d s hy).1
            generalize offs (lexL d s) f = o at hyp hyl hya
            obtain ⟨yk, yp, yt, yl⟩ := y
            simp only at hyp hyl h0 h1 h2 h3 hout
            subst hyp
            have w1' : IntKind.i64.wrap ((o : Int) + yl) = (o : Int) + yl := IntWalk.i64_in _ (by omega)
            have hcD : decide ((P : Int) < (o : Int) + yl) = true := by simp; omega
            clear hy hyl hfe
            have e0 := ext_cell z0
            have e1 := ext_cell h1
            have e3 := ext_cell h3
            have e4 := ext_cell j4
            go_wp2_with fail
            refine wp_region_ext (by kernel_rfl) (by kernel_rfl) ?_
            repeat (go_big_quiet_step (exact calls_ext (awake_any _)))
            refine wpQuiet_nil ?_
            rintro _ ⟨u, rfl⟩
            go_wp2_with fail
            go_ret
            exact ⟨rfl, hbw5.trans (u.h.mono (by omega))⟩
end Go.Proofs.Ythpdfgfefmoaaaa
