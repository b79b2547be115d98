/- RelexUpdate returns true. -/
import Derived.Test.YthpdfgfefmoaaaaRelLaw0
import Derived.Test.YthpdfgfefmoaaaaRText
namespace Go.Proofs.Ythpdfgfefmoaaaa
open Go.RowKit

set_option maxRecDepth 100000 in
set_option maxHeartbeats 4000000 in
theorem lawRUpd_any (v : DfaV) (d : Dfa) (B : Nat) (s t : ByteArray) (i j : Int) (w : World) (hd : DfaAt w B v d) (hB : B ≤ w.heap.size) (hs : s.size ≤ maxLen) (ht : t.size ≤ maxLen) :
    Calls Try.prog 3 #[.agg #[.slice v.Ac v.nc v.cc, .slice v.An v.nn v.cn, .slice v.Aa v.na v.ca, .string s, .int .i64 i, .int .i64 j, .string t]] w fun e w' => e = .returned (.bool true) ∧ Below w.heap.size w w' := by
  have hec := run_eql_change
  have hneq := fun w => run_neq_tok w
  have HD := Lib.hid ((hd.more hB).alloc (Nat.le_refl _) (.cells (askC v s i j t) 29))
  have K := Blk.new' w 29 (askC v s i j t) rfl
  have hb0 : Below w.heap.size w (w.alloc (.cells (askC v s i j t) 29)) := (Below.refl _ _).alloc (Nat.le_refl _) _
  simp only [askC] at K HD hb0
  clear hd
  go_enter Try.func3, Try.ntmps3
  go_wp2_with fail
  refine (may_any v d w.heap.size s t i j _ HD.out (by simp) hs ht).mono ?_
  rintro e w1 ⟨b, rfl, hok, hb1⟩
  simp only [World.size_alloc] at hb1
  have K1 := K.below hb1 (by omega)
  have hs1 := hb1.size
  simp only [World.size_alloc] at hs1
  have HD1 := Lib.hid (HD.out.below (hb1.mono (by omega)))
  have hbw1 : Below w.heap.size w w1 := hb0.trans (hb1.mono (by omega))
  obtain ⟨k0, k1, k2, k3, k4, k5, k6⟩ := ask_cells K1
  clear K HD hb0
  cases b with
  | false =>
    go_wp2_with fail
    refine (awake_any _).mono ?_
    rintro e w2 ⟨rfl, hb2⟩
    go_wp2_with fail
    go_ret
    exact ⟨rfl, hbw1.trans (hb2.mono (by omega))⟩
  | true =>
    obtain ⟨⟨k, ho⟩, hs100, ht30⟩ := hok rfl
    clear hok
    go_wp2_with fail
    refine (refLex_any v d k w.heap.size s w1 HD1.out (by omega) ho (by omega)).mono ?_
    rintro e w2 ⟨A, c, rfl, hc1, hc2, r2, hb2⟩
    have hs2 := hb2.size
    have K2 := K1.below hb2 (by omega)
    have HD2 := Lib.hid (HD1.out.below (hb2.mono (by omega)))
    obtain ⟨k0, k1, k2, k3, k4, k5, k6⟩ := ask_cells K2
    have hbw2 : Below w.heap.size w w2 := hbw1.trans (hb2.mono (by omega))
    have HR2 := Lib.hid r2
    obtain ⟨n, hn⟩ : ∃ n, n = (lexL d s).length := ⟨_, rfl⟩
    have HN := Lib.hid hn
    have hns := lexL_len d s
    rw [← hn] at hc1 HR2 hns ⊢
    clear hn r2 K1 HD1 hb2
    cases hok : Ed.ok s.size ⟨i, j, t⟩ with
    | false =>
      go_wp2_with fail
      refine (updateNo_any v d w2.heap.size s A n c i j t w2 HR2.out (Nat.le_refl _) (by unfold maxLen at *; omega) (by omega) hok).mono ?_
      rintro e w3 ⟨rfl, hb3⟩
      have hs3 := hb3.size
      have K3 := (K2.below hb3 (by omega)).alloc (.cells #[.int .i64 0, .int .i64 0, .int .i64 0] 35)
      have X3 := Blk.new' w3 35 #[.int .i64 0, .int .i64 0, .int .i64 0] rfl
      have HD3 := Lib.hid ((HD2.out.below (hb3.mono (by omega))).alloc (B := w.heap.size) (by omega) (.cells #[.int .i64 0, .int .i64 0, .int .i64 0] 35))
      have HR3 := Lib.hid ((HR2.out.below hb3).alloc hs3 (.cells #[.int .i64 0, .int .i64 0, .int .i64 0] 35))
      have hbw3 : Below w.heap.size w (w3.alloc (.cells #[.int .i64 0, .int .i64 0, .int .i64 0] 35)) := (hbw2.trans (hb3.mono (by omega))).alloc (by omega) _
      obtain ⟨k0, k1, k2, k3, k4, k5, k6⟩ := ask_cells K3
      clear K2 HD2 HR2
      go_wp2_with fail
      refine (refUpdateNo_any v d w2.heap.size s A n c i j t _ HR3.out (by simp; omega) (by unfold maxLen at *; omega) (by omega) hok).mono ?_
      rintro e w4 ⟨rfl, hb4⟩
      simp only [World.size_alloc] at hb4
      have hs4 := hb4.size
      simp only [World.size_alloc] at hs4
      have X4 := (X3.below hb4 (by omega)).alloc (.cells #[.int .i64 0, .int .i64 0, .int .i64 0] 35)
      have Z4 := Blk.new' w4 35 #[.int .i64 0, .int .i64 0, .int .i64 0] rfl
      have hbw4 : Below w.heap.size w (w4.alloc (.cells #[.int .i64 0, .int .i64 0, .int .i64 0] 35)) := (hbw3.trans (hb4.mono (by omega))).alloc (by omega) _
      go_wp2_with fail
      refine (awake_any _).mono ?_
      rintro e w5 ⟨rfl, hb5⟩
      simp only [World.size_alloc] at hb5
      have X5 := X4.below hb5 (by omega)
      have Z5 := Z4.below hb5 (by omega)
      have x0 := X5.cell 0
      have x1 := X5.cell 1
      have x2 := X5.cell 2
      have z0 := Z5.cell 0
      have z1 := Z5.cell 1
      have z2 := Z5.cell 2
      simp at x0 x1 x2 z0 z1 z2
      have hbw5 := hbw4.trans (hb5.mono (by omega))
      go_wp2_with fail
      refine (same_any none none 0 0 0 0 0 0 [] [] w5 Reads.nil_ Reads.nil_ (Nat.zero_le _) (Nat.zero_le _)).mono ?_
      rw [sameT_iff.2 rfl]
      rintro e w6 ⟨rfl, n6, rfl⟩
      go_wp2_with fail
      go_ret
      exact ⟨rfl, below_drewN hbw5 _⟩
    | true =>
      obtain ⟨hk1, hk2, hk3, hk4⟩ := Ed.ok_iff.1 hok
      simp only at hk1 hk2 hk3 hk4
      obtain ⟨P, rfl⟩ := Int.eq_ofNat_of_zero_le hk1
      obtain ⟨D, rfl⟩ := Int.eq_ofNat_of_zero_le hk2
      clear hk1 hk2
      go_wp2_with fail
      refine (updateOk_any v d k w2.heap.size s A n c P D t w2 (HD2.out.more (by omega)) ho HR2.out (Nat.le_refl _) hc1 hc2 (by omega) hok).mono ?_
      rintro e w3 ⟨A3, c3, m, q, rfl, hc3, hm3, r3, hf, hb3⟩
      have hs3 := hb3.size
      have hpl := preL_le P (lexL d s)
      have hpre : preL (⟨P, D, t⟩ : Ed).pos (lexL d s) = preL P (lexL d s) := rfl
      rw [hpre]
      obtain ⟨f, hff⟩ : ∃ f, f = preL P (lexL d s) := ⟨_, rfl⟩
      have HPR := Lib.hid hff
      obtain ⟨nL, hnL⟩ : ∃ nL, nL = (lexL d (apT s ⟨P, D, t⟩)).length := ⟨_, rfl⟩
      have HNL := Lib.hid hnL
      have HFI := Lib.hid hf
      rw [← HN.out] at hpl
      rw [← hff] at hpl ⊢
      rw [← hnL] at hc3 r3 ⊢
      have K3 := (K2.below hb3 (by omega)).alloc (.cells #[.int .i64 f, .int .i64 ((q : Int) - f), .int .i64 ((m : Int) - f)] 35)
      have X3 := Blk.new' w3 35 #[.int .i64 f, .int .i64 ((q : Int) - f), .int .i64 ((m : Int) - f)] rfl
      have HD3 := Lib.hid ((HD2.out.below (hb3.mono (by omega))).alloc (B := w.heap.size) (by omega) (.cells #[.int .i64 f, .int .i64 ((q : Int) - f), .int .i64 ((m : Int) - f)] 35))
      have HR3 := Lib.hid ((HR2.out.below hb3).alloc hs3 (.cells #[.int .i64 f, .int .i64 ((q : Int) - f), .int .i64 ((m : Int) - f)] 35))
      have HL3 := Lib.hid (r3.alloc (Nat.le_refl _) (.cells #[.int .i64 f, .int .i64 ((q : Int) - f), .int .i64 ((m : Int) - f)] 35))
      have hbw3 : Below w.heap.size w (w3.alloc (.cells #[.int .i64 f, .int .i64 ((q : Int) - f), .int .i64 ((m : Int) - f)] 35)) := (hbw2.trans (hb3.mono (by omega))).alloc (by omega) _
      obtain ⟨k0, k1, k2, k3, k4, k5, k6⟩ := ask_cells K3
      clear hff hnL hf r3 K2 HD2 HR2 hpre
      go_wp2_with fail
      refine (refUpdateOk_any v d k w2.heap.size s A n c P D t _ (HD3.out.more (by omega)) ho HR3.out (by simp; omega) hc1 hc2 (by omega) hok).mono ?_
      rintro e w4 ⟨A4, c4, m', q', rfl, hc4, hm4, r4, hf4, hb4⟩
      obtain ⟨rfl, rfl⟩ := hf4.uniq HFI.out
      simp only [World.size_alloc] at hb4
      have hs4 := hb4.size
      simp only [World.size_alloc] at hs4
      have hpre : preL (⟨P, D, t⟩ : Ed).pos (lexL d s) = preL P (lexL d s) := rfl
      rw [hpre, ← HPR.out, ← HNL.out]
      rw [← HNL.out] at r4 hc4
      have X4 := (X3.below hb4 (by omega)).alloc (.cells #[.int .i64 f, .int .i64 ((q' : Int) - f), .int .i64 ((m' : Int) - f)] 35)
      have Z4 := Blk.new' w4 35 #[.int .i64 f, .int .i64 ((q' : Int) - f), .int .i64 ((m' : Int) - f)] rfl
      have HL4 := Lib.hid ((HL3.out.below (hb4.mono (by omega))).alloc (by omega) (.cells #[.int .i64 f, .int .i64 ((q' : Int) - f), .int .i64 ((m' : Int) - f)] 35))
      have HM4 := Lib.hid (r4.alloc (Nat.le_refl _) (.cells #[.int .i64 f, .int .i64 ((q' : Int) - f), .int .i64 ((m' : Int) - f)] 35))
      have hbw4 : Below w.heap.size w (w4.alloc (.cells #[.int .i64 f, .int .i64 ((q' : Int) - f), .int .i64 ((m' : Int) - f)] 35)) := (hbw3.trans (hb4.mono (by omega))).alloc (by omega) _
      clear r4 hpre
      go_wp2_with fail
      refine (awake_any _).mono ?_
      rintro e w5 ⟨rfl, hb5⟩
      simp only [World.size_alloc] at hb5
      have X5 := X4.below hb5 (by omega)
      have Z5 := Z4.below hb5 (by omega)
      have x0 := X5.cell 0
      have x1 := X5.cell 1
      have x2 := X5.cell 2
      have z0 := Z5.cell 0
      have z1 := Z5.cell 1
      have z2 := Z5.cell 2
      simp at x0 x1 x2 z0 z1 z2
      have hbw5 := hbw4.trans (hb5.mono (by omega))
      have HL5 := Lib.hid (HL4.out.below (hb5.mono (by omega)))
      have HM5 := Lib.hid (HM4.out.below (hb5.mono (by omega)))
      go_wp2_with fail
      refine (same_any A3 A4 nL nL c3 c4 w3.heap.size w4.heap.size (lexL d (apT s ⟨P, D, t⟩)) (lexL d (apT s ⟨P, D, t⟩)) w5 HL5.out HM5.out (by omega) (by omega)).mono ?_
      rw [sameT_iff.2 rfl]
      rintro e w6 ⟨rfl, n6, rfl⟩
      go_wp2_with fail
      go_ret
      exact ⟨rfl, below_drewN hbw5 _⟩
end Go.Proofs.Ythpdfgfefmoaaaa
