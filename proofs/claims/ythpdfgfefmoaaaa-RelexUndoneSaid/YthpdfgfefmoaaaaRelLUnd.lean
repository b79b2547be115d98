/- RelexUndone returns true. -/
import Derived.Test.YthpdfgfefmoaaaaRelLaw0
import Derived.Test.YthpdfgfefmoaaaaRText
import Derived.Test.YthpdfgfefmoaaaaExt
namespace Go.Proofs.Ythpdfgfefmoaaaa
open Go.RowKit

set_option maxRecDepth 100000 in
set_option maxHeartbeats 4000000 in
theorem lawRUnd_any (v : DfaV) (d : Dfa) (B : Nat) (s t : ByteArray) (i j : Int) (w : World) (hd : DfaAt w B v d) (hB : B ≤ w.heap.size) (hs : s.size ≤ maxLen) (ht : t.size ≤ maxLen) :
    Calls Try.prog 8 #[.agg #[.slice v.Ac v.nc v.cc, .slice v.An v.nn v.cn, .slice v.Aa v.na v.ca, .string s, .int .i64 i, .int .i64 j, .string t]] w fun e w' => e = .returned (.bool true) ∧ Below w.heap.size w w' := by
  have hec := run_eql_change
  have hneq := fun w => run_neq_tok w
  have HD := Lib.hid ((hd.more hB).alloc (Nat.le_refl _) (.cells (askC v s i j t) 29))
  have K := Blk.new' w 29 (askC v s i j t) rfl
  have hb0 : Below w.heap.size w (w.alloc (.cells (askC v s i j t) 29)) := (Below.refl _ _).alloc (Nat.le_refl _) _
  simp only [askC] at K HD hb0
  clear hd
  go_enter Try.func8, Try.ntmps8
  go_wp2_with fail
  refine (may_any v d w.heap.size s t i j _ HD.out (by simp) hs ht).mono ?_
  rintro e w1 ⟨b, rfl, hok, hb1⟩
  simp only [World.size_alloc] at hb1
  have K1 := K.below hb1 (by omega)
  have hs1 := hb1.size
  simp only [World.size_alloc] at hs1
  have HD1 := Lib.hid (HD.out.below (hb1.mono (by omega)))
  have hbw1 : Below w.heap.size w w1 := hb0.trans (hb1.mono (by omega))
  obtain ⟨k0, k1, k2, k3, k4, k5, k6⟩ := ask_cells K1
  clear K HD hb0
  cases b with
  | false =>
    go_wp2_with fail
    refine (awake_any _).mono ?_
    rintro e w2 ⟨rfl, hb2⟩
    go_wp2_with fail
    go_ret
    exact ⟨rfl, hbw1.trans (hb2.mono (by omega))⟩
  | true =>
    obtain ⟨⟨k, ho⟩, hs100, ht30⟩ := hok rfl
    clear hok
    go_wp2_with fail
    refine (rfits_any s.size i j t w1 hs).mono ?_
    rintro e wf ⟨rfl, hbf⟩
    replace K1 := K1.below hbf (by omega)
    replace HD1 := Lib.hid (HD1.out.below (hbf.mono (by omega)))
    replace hbw1 := hbw1.trans (hbf.mono (by omega))
    have hsf := hbf.size
    replace hs1 : w.heap.size + 1 ≤ wf.heap.size := by omega
    clear k0 k1 k2 k3 k4 k5 k6 hb1 hbf hsf
    obtain ⟨k0, k1, k2, k3, k4, k5, k6⟩ := ask_cells K1
    cases hok : Ed.ok s.size ⟨i, j, t⟩ with
    | false =>
      go_wp2_with fail
      refine (awake_any _).mono ?_
      rintro e w2 ⟨rfl, hb2⟩
      go_wp2_with fail
      go_ret
      exact ⟨rfl, hbw1.trans (hb2.mono (by omega))⟩
    | true =>
      go_wp2_with fail
      refine (refLex_any v d k w.heap.size s wf HD1.out (by omega) ho (by omega)).mono ?_
      rintro e w2 ⟨A, c, rfl, hc1, hc2, r2, hb2⟩
      have hs2 := hb2.size
      have K2 := K1.below hb2 (by omega)
      have HD2 := Lib.hid (HD1.out.below (hb2.mono (by omega)))
      obtain ⟨k0, k1, k2, k3, k4, k5, k6⟩ := ask_cells K2
      have hbw2 : Below w.heap.size w w2 := hbw1.trans (hb2.mono (by omega))
      have HR2 := Lib.hid r2
      obtain ⟨n, hn⟩ : ∃ n, n = (lexL d s).length := ⟨_, rfl⟩
      have HN := Lib.hid hn
      have hns := lexL_len d s
      rw [← hn] at hc1 HR2 hns ⊢
      clear hn r2 K1 HD1 hb2
      obtain ⟨hk1, hk2, hk3, hk4⟩ := Ed.ok_iff.1 hok
      simp only at hk1 hk2 hk3 hk4
      obtain ⟨P, rfl⟩ := Int.eq_ofNat_of_zero_le hk1
      obtain ⟨D, rfl⟩ := Int.eq_ofNat_of_zero_le hk2
      clear hk1 hk2
      go_wp2_with fail
      refine (updateOk_any v d k w2.heap.size s A n c P D t w2 (HD2.out.more (by omega)) ho HR2.out (Nat.le_refl _) hc1 hc2 (by omega) hok).mono ?_
      rintro e w3 ⟨A3, c3, m, q, rfl, hc3, hm3, r3, hf, hb3⟩
      have hs3 := hb3.size
      have hpl := preL_le P (lexL d s)
      have hpre : preL (⟨P, D, t⟩ : Ed).pos (lexL d s) = preL P (lexL d s) := rfl
      rw [hpre]
      obtain ⟨f, hff⟩ : ∃ f, f = preL P (lexL d s) := ⟨_, rfl⟩
      have HPR := Lib.hid hff
      obtain ⟨nL, hnL⟩ : ∃ nL, nL = (lexL d (apT s ⟨P, D, t⟩)).length := ⟨_, rfl⟩
      have HNL := Lib.hid hnL
      have HFI := Lib.hid hf
      rw [← HN.out] at hpl
      rw [← hff] at hpl ⊢
      rw [← hnL] at hc3 r3 ⊢
      obtain ⟨o, rfl⟩ : ∃ o, q = f + o := ⟨q - f, by have := HFI.out.meet.fk hok; rw [show preL (⟨P, D, t⟩ : Ed).pos (lexL d s) = f from HPR.out.symm] at this; omega⟩
      obtain ⟨p, rfl⟩ : ∃ p, m = f + p := ⟨m - f, by have := HFI.out.meet.fm; rw [show preL (⟨P, D, t⟩ : Ed).pos (lexL d s) = f from HPR.out.symm] at this; omega⟩
      rw [show ((f + o : Nat) : Int) - (f : Int) = (o : Int) by omega, show ((f + p : Nat) : Int) - (f : Int) = (p : Int) by omega]
      have K3 := (K2.below hb3 (by omega)).alloc (.cells #[.int .i64 f, .int .i64 o, .int .i64 p] 35)
      have X3 := Blk.new' w3 35 #[.int .i64 f, .int .i64 o, .int .i64 p] rfl
      have HD3 := Lib.hid ((HD2.out.below (hb3.mono (by omega))).alloc (B := w.heap.size) (by omega) (.cells #[.int .i64 f, .int .i64 o, .int .i64 p] 35))
      have HR3 := Lib.hid ((HR2.out.below hb3).alloc hs3 (.cells #[.int .i64 f, .int .i64 o, .int .i64 p] 35))
      have HL3 := Lib.hid (r3.alloc (Nat.le_refl _) (.cells #[.int .i64 f, .int .i64 o, .int .i64 p] 35))
      have hbw3 : Below w.heap.size w (w3.alloc (.cells #[.int .i64 f, .int .i64 o, .int .i64 p] 35)) := (hbw2.trans (hb3.mono (by omega))).alloc (by omega) _
      obtain ⟨k0, k1, k2, k3, k4, k5, k6⟩ := ask_cells K3
      clear hff hnL hf r3 K2 HD2 HR2 hpre
      have hnL : nL ≤ s.size + t.size := by have h1 := lexL_len d (apT s ⟨P, D, t⟩); have h2 := apT_size_ok hok; simp only at h2; rw [← HNL.out] at h1; omega
      have hTs : (apT s ⟨P, D, t⟩).size ≤ s.size + t.size := by have h2 := apT_size_ok hok; simp only at h2; omega
      go_wp2_with fail
      obtain ⟨w4, hw4⟩ : ∃ w4, w3.alloc (.cells #[.int .i64 f, .int .i64 o, .int .i64 p] 35) = w4 := ⟨_, rfl⟩
      have hs4 : w3.heap.size < w4.heap.size := by rw [← hw4]; simp
      rw [hw4] at K3 X3 HD3 HR3 HL3 hbw3 k0 k1 k2 k3 k4 k5 k6
      have x0 := X3.cell 0
      have x1 := X3.cell 1
      have x2 := X3.cell 2
      simp at x0 x1 x2
      try rw [hw4]
      clear hw4 x0 x1 x2 k0 k1 k2 k3 k4 k5 k6
      obtain ⟨T, hT⟩ : ∃ T, T = apT s ⟨P, D, t⟩ := ⟨_, rfl⟩
      rw [← hT] at HL3 HNL hTs
      have HTT := Lib.hid hT
      clear hT
      have HTX := Lib.hid (textL_lexL d T)
      have h9 : ∀ w9, Below w4.heap.size w4 w9 → w9.cell? ⟨w.heap.size, 0, none⟩ = some (.slice v.Ac v.nc v.cc) ∧ w9.cell? ⟨w.heap.size, 1, none⟩ = some (.slice v.An v.nn v.cn) ∧ w9.cell? ⟨w.heap.size, 2, none⟩ = some (.slice v.Aa v.na v.ca) ∧ Below w4.heap.size w4 w9 := fun w9 h => by
        obtain ⟨j0, j1, j2, _⟩ := ask_cells (K3.below h K3.lt)
        exact ⟨j0, j1, j2, h⟩
      have H9 := Lib.hid h9
      clear h9
      have hle4 : w.heap.size ≤ w4.drew.heap.size := by show w.heap.size ≤ w4.heap.size; omega
      go_region_held3 (fun w' => w'.cell? ⟨w.heap.size, 0, none⟩ = some (.slice v.Ac v.nc v.cc) ∧ w'.cell? ⟨w.heap.size, 1, none⟩ = some (.slice v.An v.nn v.cn) ∧ w'.cell? ⟨w.heap.size, 2, none⟩ = some (.slice v.Aa v.na v.ca) ∧ Below w4.heap.size w4 w')
        (first | exact H9.out _ X7 | exact H9.out _ X6 | exact H9.out _ ((Below.refl _ _).drew))
        (first
          | (go_at_call 18; (with_reducible refine (refText_any A3 nL c3 w3.heap.size (lexL d T) w4.drew (HL3.out.drew) (by unfold maxLen; omega) (by rw [HTX.out]; omega)).mono ?_); rw [HTX.out]; rintro e w5 ⟨rfl, rfl⟩)
          | (go_at_call 14; (with_reducible refine (same_any A3 A6 nL (lexL d T).length c3 c6 w3.heap.size w6.heap.size (lexL d T) (lexL d T) w6 (HL3.out.below (X6.mono (by omega))) r6 (by unfold maxLen; omega) (by rw [← HNL.out]; unfold maxLen; omega)).mono ?_); rw [sameT_iff.2 rfl]; rintro e w7 ⟨rfl, n7, rfl⟩; have X7 : Below w4.heap.size w4 (w6.drewN n7) := below_drewN X6 _)
          | (go_at_call 11; (with_reducible refine (refLex_any v d k w.heap.size T w4.drew (HD3.out.below (Below.refl _ _).drew) hle4 ho (by omega)).mono ?_); rintro e w6 ⟨A6, c6, rfl, hc61, hc62, r6, hb6⟩; have X6 : Below w4.heap.size w4 w6 := ((Below.refl _ w4).drew).trans (hb6.mono (Nat.le_refl _))))
      go_upto_region 7 with fail
      obtain ⟨w8, hw8⟩ : ∃ w8, w6.drewN n7 = w8 := ⟨_, rfl⟩
      rw [hw8] at X7 ⊢
      have hs8 := X7.size
      have K8 := K3.below X7 K3.lt
      have HD8 := Lib.hid (HD3.out.below (X7.mono (by omega)))
      have HR8 := Lib.hid (HR3.out.below (X7.mono (by omega)))
      have HL8 := Lib.hid (HL3.out.below (X7.mono (by omega)))
      have hbw8 := hbw3.trans (X7.mono (by omega))
      clear hw8 r6 hb6 X6 X7 H9 hle4 HD3 HR3 HL3 K3 X3
      obtain ⟨Q, hQ⟩ : ∃ Q, Q = P + D := ⟨_, rfl⟩
      have v1 : IntKind.i64.wrap ((P : Int) + D) = (Q : Int) := by rw [show (P : Int) + D = (Q : Int) by omega]; exact IntWalk.i64_in _ (by omega)
      have hPQ : (P : Int) ≤ (Q : Int) := by omega
      have hQs : (Q : Int) ≤ (s.size : Int) := by omega
      have hPQ' : P ≤ Q := by omega
      have hQs' : Q ≤ s.size := by omega
      have hI := inv_pos hok
      rw [show (⟨P, D, t⟩ : Ed).pos.toNat + (⟨P, D, t⟩ : Ed).del.toNat = Q from hQ.symm, show (⟨P, D, t⟩ : Ed).pos.toNat = P from rfl] at hI
      have HIok := inv_ok hok
      have HIap := inv_apT hok
      rw [hI, ← HTT.out] at HIok HIap
      replace HIok := Lib.hid HIok
      replace HIap := Lib.hid HIap
      clear hI hQ
      have hxs : (s.extract P Q).size ≤ s.size := by rw [ByteArray.size_extract]; omega
      have hz8 : w8.heap.size ≤ w8.drew.heap.size := Nat.le_refl _
      have hz8' : w8.heap.size ≤ (w8.alloc (.cells #[.int .i64 0, .int .i64 0, .int .i64 0] 35)).drew.heap.size := by show w8.heap.size ≤ (w8.alloc _).heap.size; simp
      have B8 : Below w8.heap.size w8 w8.drew := (Below.refl _ _).drew
      have B8' : Below w8.heap.size w8 (w8.alloc (.cells #[.int .i64 0, .int .i64 0, .int .i64 0] 35)).drew := ((Below.refl _ w8).alloc (Nat.le_refl _) _).drew
      have Z8 := blk_drew (Blk.new' w8 35 #[.int .i64 0, .int .i64 0, .int .i64 0] (g := w8.heap.size) rfl)
      have hz8n : w8.heap.size < (w8.alloc (.cells #[.int .i64 0, .int .i64 0, .int .i64 0] 35)).drew.heap.size := by show w8.heap.size < (w8.alloc _).heap.size; simp
      have h9 : ∀ w9, Below w8.heap.size w8 w9 → w9.cell? ⟨w.heap.size, 0, none⟩ = some (.slice v.Ac v.nc v.cc) ∧ w9.cell? ⟨w.heap.size, 1, none⟩ = some (.slice v.An v.nn v.cn) ∧ w9.cell? ⟨w.heap.size, 2, none⟩ = some (.slice v.Aa v.na v.ca) ∧ w9.cell? ⟨w.heap.size, 3, none⟩ = some (.string s) ∧ w9.cell? ⟨w.heap.size, 4, none⟩ = some (.int .i64 P) ∧ w9.cell? ⟨w.heap.size, 5, none⟩ = some (.int .i64 D) ∧ w9.cell? ⟨w.heap.size, 6, none⟩ = some (.string t) ∧ Below w8.heap.size w8 w9 := fun w9 h => by
        obtain ⟨j0, j1, j2, j3, j4, j5, j6⟩ := ask_cells (K8.below h K8.lt)
        exact ⟨j0, j1, j2, j3, j4, j5, j6, h⟩
      have H9 := Lib.hid h9
      have hlen8 : w.heap.size ≤ w8.heap.size := by omega
      have hlw3 : w3.heap.size ≤ w8.heap.size := by omega
      have hlw2 : w2.heap.size ≤ w8.heap.size := by omega
      have hsz8 : T.size + (s.extract P Q).size ≤ 1048576 := by omega
      have hmx : nL ≤ maxLen := by unfold maxLen; omega
      clear h9 hs8
      go_cut [7, 8, 9] (fun a7 a8 a9 wx => ∃ (A9 : Option Addr) (c9 : Nat), a7 = .slice A9 n c9 ∧ a9 = .int .i64 0 ∧ (∃ B9, B9 ≤ wx.heap.size ∧ Reads wx B9 4 A9 n (toks (lexL d s))) ∧ Below w8.heap.size w8 wx)
      case first =>
        go_region_held3 (fun w' => w'.cell? ⟨w.heap.size, 0, none⟩ = some (.slice v.Ac v.nc v.cc) ∧ w'.cell? ⟨w.heap.size, 1, none⟩ = some (.slice v.An v.nn v.cn) ∧ w'.cell? ⟨w.heap.size, 2, none⟩ = some (.slice v.Aa v.na v.ca) ∧ w'.cell? ⟨w.heap.size, 3, none⟩ = some (.string s) ∧ w'.cell? ⟨w.heap.size, 4, none⟩ = some (.int .i64 P) ∧ w'.cell? ⟨w.heap.size, 5, none⟩ = some (.int .i64 D) ∧ w'.cell? ⟨w.heap.size, 6, none⟩ = some (.string t) ∧ Below w8.heap.size w8 w')
          (first | exact H9.out _ ((Below.refl _ _).drew) | exact H9.out _ B8' | exact H9.out _ X9 | exact H9.out _ (X9.alloc hz9 _) | exact H9.out _ (((X9.setCell (Nat.le_refl _) _).setCell (Nat.le_refl _) _).setCell (Nat.le_refl _) _))
          (first
            | (go_at_call 12; (with_reducible refine (updateOk_any v d k w8.heap.size T A3 nL c3 P t.size (s.extract P Q) w8.drew ((HD8.out.more hlen8).below B8) ho ((HL8.out.more hlw3).below B8) hz8 hc3 hm3 hsz8 HIok.out).mono ?_); unfold RetUpd; rw [HIap.out, ← HN.out]; rintro e w9 ⟨A9, c9, m9, q9, rfl, hc9, hm9, r9, hf9, hb9⟩; have X9 : Below w8.heap.size w8 w9 := B8.trans (hb9.mono (Nat.le_refl _)); have hz9 : w8.heap.size ≤ w9.heap.size := X9.size)
            | (go_at_call 12; (with_reducible refine (updateOk_any v d k w8.heap.size T A3 nL c3 P t.size (s.extract P Q) _ ((HD8.out.more hlen8).below B8') ho ((HL8.out.more hlw3).below B8') hz8' hc3 hm3 hsz8 HIok.out).mono ?_); unfold RetUpd; rw [HIap.out, ← HN.out]; rintro e w9 ⟨A9, c9, m9, q9, rfl, hc9, hm9, r9, hf9, hb9⟩; have X9 : Below w8.heap.size w8 w9 := B8'.trans (hb9.mono hz8'); have hz9 : w8.heap.size ≤ w9.heap.size := X9.size; have Z9 := Z8.below hb9 hz8n; have n0 := Z9.cell 0; have n1 := Z9.cell 1; have n2 := Z9.cell 2; have m0 := Z9.frozen 0; have m1 := Z9.frozen 1; have m2 := Z9.frozen 2; simp at n0 n1 n2))
        all_goals
          go_wp2_with fail
          go_meet
          first
            | exact ⟨A9, c9, rfl, rfl, ⟨_, by simp, r9.alloc (Nat.le_refl _) _⟩, X9.alloc hz9 _⟩
            | exact ⟨A9, c9, rfl, rfl, ⟨_, by simp, r9.set_far3 Z9 _ _ _⟩, ((X9.setCell (Nat.le_refl _) _).setCell (Nat.le_refl _) _).setCell (Nat.le_refl _) _⟩
      case rest =>
        obtain ⟨A9, c9, rfl, rfl, ⟨B9, hB9, r9⟩, X9⟩ := hcut
        rename World => w9
        go_wp2_with fail
        refine (awake_any _).mono ?_
        rintro e w10 ⟨rfl, hb10⟩
        go_wp2_with fail
        refine (same_any A9 A n n c9 c w9.heap.size w8.heap.size (lexL d s) (lexL d s) w10 ((r9.more hB9).below hb10) ((HR8.out.more hlw2).below (X9.trans (hb10.mono X9.size))) (by unfold maxLen; omega) (by unfold maxLen; omega)).mono ?_
        rw [sameT_iff.2 rfl]
        rintro e w11 ⟨rfl, n11, rfl⟩
        go_wp2_with fail
        go_ret
        exact ⟨rfl, below_drewN (hbw8.trans ((X9.mono (by omega)).trans (hb10.mono (by have := X9.size; omega)))) _⟩
end Go.Proofs.Ythpdfgfefmoaaaa
