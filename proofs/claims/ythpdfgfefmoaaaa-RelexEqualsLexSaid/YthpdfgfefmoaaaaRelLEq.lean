/- RelexEqualsLex returns true. -/
import Derived.Test.YthpdfgfefmoaaaaRelLaw0
import Derived.Test.YthpdfgfefmoaaaaRText
import Derived.Test.YthpdfgfefmoaaaaEdL
import Derived.Deep.DeepCutAuto
namespace Go.Proofs.Ythpdfgfefmoaaaa
open Go.RowKit

set_option maxRecDepth 100000 in
set_option maxHeartbeats 4000000 in
theorem lawREq_any (v : DfaV) (d : Dfa) (B : Nat) (s : ByteArray) (A1 : Option Addr) (n1 c1 : Nat) (l : List Ed) (w : World) (hd : DfaAt w B v d) (hB : B ≤ w.heap.size) (hs : s.size ≤ maxLen)
    (hl : Reads w B 3 A1 n1 (eds l)) (hn1 : n1 ≤ maxLen) (ht : ∀ t ∈ l, t.ins.size ≤ 1000000000000000) :
    Calls Try.prog 4 #[.agg #[.slice v.Ac v.nc v.cc, .slice v.An v.nn v.cn, .slice v.Aa v.na v.ca], .string s, .slice A1 n1 c1] w fun e w' => e = .returned (.bool true) ∧ Below w.heap.size w w' := by
  have HD := Lib.hid (hd.more hB)
  have HL := Lib.hid (hl.more hB)
  have HTS := Lib.hid ht
  clear hd hl ht
  go_enter Try.func4, Try.ntmps4
  go_wp2_with fail
  obtain ⟨W, hW⟩ : ∃ W, W = w.alloc (.cells #[.slice v.Ac v.nc v.cc, .slice v.An v.nn v.cn, .slice v.Aa v.na v.ca] 25) := ⟨_, rfl⟩
  have hbW : Below w.heap.size w W := by rw [hW]; exact (Below.refl _ _).alloc (Nat.le_refl _) _
  have hsW : W.heap.size = w.heap.size + 1 := by rw [hW]; simp
  have K0 : Blk W w.heap.size 25 #[.slice v.Ac v.nc v.cc, .slice v.An v.nn v.cn, .slice v.Aa v.na v.ca] := by rw [hW]; exact Blk.new' w _ _ rfl
  have HDW := Lib.hid (HD.out.below hbW)
  rw [← hW]
  clear hW HD
  refine (small_any v d w.heap.size 40 20 W HDW.out (by omega)).mono ?_
  rintro e w1 ⟨bb, rfl, hok, hb1⟩
  have hs1 := hb1.size
  have hbw1 := hbW.trans (hb1.mono (by omega))
  have K1 := K0.below hb1 (by omega)
  have HD1 := Lib.hid (HDW.out.below (hb1.mono (by omega)))
  have k0 := K1.cell 0
  have k1 := K1.cell 1
  have k2 := K1.cell 2
  simp at k0 k1 k2
  clear K0 HDW hbW hb1
  cases bb with
  | false =>
    go_wp2_with fail
    refine (awake_any _).mono ?_
    rintro e wa ⟨rfl, hba⟩
    go_wp2_with fail
    go_ret
    exact ⟨rfl, hbw1.trans (hba.mono (by omega))⟩
  | true =>
  obtain ⟨k, ho⟩ := hok rfl
  have HO := Lib.hid ho
  clear hok ho
  by_cases hs80 : s.size ≤ 80
  case neg =>
    have hsD : decide ((80 : Int) < (s.size : Int)) = true := by simp; omega
    go_wp2_with fail
    refine (awake_any _).mono ?_
    rintro e wa ⟨rfl, hba⟩
    go_wp2_with fail
    go_ret
    exact ⟨rfl, hbw1.trans (hba.mono (by omega))⟩
  case pos =>
  have hsD : decide ((80 : Int) < (s.size : Int)) = false := by simp; omega
  by_cases hl12 : n1 ≤ 12
  case neg =>
    have hlD : decide ((12 : Int) < (n1 : Int)) = true := by simp; omega
    go_wp2_with fail
    refine (awake_any _).mono ?_
    rintro e wa ⟨rfl, hba⟩
    go_wp2_with fail
    go_ret
    exact ⟨rfl, hbw1.trans (hba.mono (by omega))⟩
  case pos =>
  have hlD : decide ((12 : Int) < (n1 : Int)) = false := by simp; omega
  go_wp2_with fail
  refine (refLex_any v d k w.heap.size s w1 HD1.out (by omega) HO.out (by omega)).mono ?_
  rintro e w2 ⟨A2, c2, rfl, hc21, hc22, r2, hb2⟩
  have hs2 := hb2.size
  have K2 := K1.below hb2 (by omega)
  have HD2 := Lib.hid (HD1.out.below (hb2.mono (by omega)))
  have hbw2 : Below w.heap.size w w2 := hbw1.trans (hb2.mono (by omega))
  have HL2 := Lib.hid (HL.out.below hbw2)
  have HR2 := Lib.hid r2
  clear r2 K1 HD1 hb2 k0 k1 k2 HL
  have hwl2 : w.heap.size < w2.heap.size := by omega
  go_wp2_with fail
  go_loopw [1, 7, 8] (fun a1 a7 a8 wr => ∃ (i : Nat) (S : ByteArray) (A : Option Addr) (n c : Nat), i ≤ n1 ∧ a1 = .string S ∧ a7 = .slice A n c ∧ a8 = .int .i64 i ∧ S.size ≤ 120 ∧ n = (lexL d S).length ∧ n ≤ c ∧ c ≤ maxLen ∧ (∃ B, B ≤ wr.heap.size ∧ Reads wr B 4 A n (toks (lexL d S))) ∧ Below w2.heap.size w2 wr) (fun _ _ a8 _ => n1 - (intOf a8).toNat)
  case atStart => exact ⟨0, s, A2, (lexL d s).length, c2, Nat.zero_le _, rfl, rfl, rfl, by omega, rfl, hc21, hc22, ⟨_, Nat.le_refl _, HR2.out⟩, Below.refl _ _⟩
  case round =>
    obtain ⟨i, S, A, n, c, hi, rfl, rfl, rfl, hS, hn, hc1, hc2, ⟨B2, hB2, rr⟩, hbr⟩ := hrel
    clear HR2 hc21 hc22
    have HN := Lib.hid hn
    have hns := lexL_len d S
    rw [← hn] at hns
    clear hn
    have hsr := hbr.size
    have Kr := K2.below hbr hwl2
    have HDr := Lib.hid (HD2.out.below (hbr.mono (by omega)))
    have HLr := Lib.hid (HL2.out.below (hbr.mono (by omega)))
    have HRr := Lib.hid (rr.more hB2)
    have hbwr : Below w.heap.size w wr := hbw2.trans (hbr.mono (by omega))
    clear rr hB2
    by_cases hlt : i < n1
    case neg =>
      have hltD : decide (i < n1) = false := by simp [hlt]
      go_wp2_with fail
      refine (awake_any _).mono ?_
      rintro e wa ⟨rfl, hba⟩
      go_wp2_with fail
      go_ret
      exact ⟨rfl, hbwr.trans (hba.mono (by omega))⟩
    case pos =>
    have hltD : decide (i < n1) = true := by simp [hlt]
    obtain ⟨b, off, y, rfl, hbB, hy, h0, h1, h2⟩ := HLr.out.ed_at hlt
    have hyt := HTS.out y (List.mem_of_getElem? hy)
    obtain ⟨ep, ed, ei⟩ := y
    simp only at h0 h1 h2 hyt
    clear hy
    have hbr8 : b < wr.heap.size := by omega
    have v1 : IntKind.i64.wrap ((S.size : Int) + ei.size) = (S.size : Int) + ei.size := IntWalk.i64_in _ (by omega)
    by_cases hbig : S.size + ei.size ≤ 120
    case neg =>
      have hbD : decide ((120 : Int) < (S.size : Int) + ei.size) = true := by simp; omega
      go_wp2_with fail
      refine (awake_any _).mono ?_
      rintro e wa ⟨rfl, hba⟩
      go_wp2_with fail
      go_ret
      exact ⟨rfl, hbwr.trans (hba.mono (by omega))⟩
    case pos =>
    have hbD : decide ((120 : Int) < (S.size : Int) + ei.size) = false := by simp; omega
    go_wp2_with fail
    refine (repl_any S ep ed ei wr (by omega)).mono ?_
    rintro e w8 ⟨rfl, hb8r⟩
    have hs8r := hb8r.size
    have K8 := Kr.below hb8r (by omega)
    have HD8 := Lib.hid ((HDr.out.below (hb8r.mono (by omega))).more (show w.heap.size ≤ w8.heap.size by omega))
    have HR8 := Lib.hid ((HRr.out.below hb8r).more hs8r)
    have hb8 : Below w2.heap.size w2 w8 := hbr.trans (hb8r.mono hsr)
    replace h0 := ((bcell hb8r).1 _ _ hbr8).trans h0
    replace h1 := ((bcell hb8r).1 _ _ hbr8).trans h1
    replace h2 := ((bcell hb8r).1 _ _ hbr8).trans h2
    replace hbB : b < w8.heap.size := by omega
    have hw28 : w2.heap.size ≤ w8.heap.size := by omega
    have k0 := K8.cell 0
    have k1 := K8.cell 1
    have k2 := K8.cell 2
    simp at k0 k1 k2
    have hmx : n ≤ maxLen := by unfold maxLen at *; omega
    have hsz8 : S.size + ei.size ≤ 1048576 := by omega
    clear hbr hb8r HLr HDr HRr Kr hbwr hsr hs8r hbr8
    clear wr
    cases hok : Ed.ok S.size ⟨ep, ed, ei⟩ with
    | false =>
      have hF : apF S ⟨ep, ed, ei⟩ = 2 := by simp [apF, hok]
      rw [hF]
      clear hF
      go_upto_region 10 with fail
      have hz8 : w8.heap.size ≤ w8.drew.heap.size := Nat.le_refl _
      have hz8' : w8.heap.size ≤ (w8.alloc (.cells #[.int .i64 0, .int .i64 0, .int .i64 0] 35)).drew.heap.size := by show w8.heap.size ≤ (w8.alloc _).heap.size; simp
      have B8 : Below w8.heap.size w8 w8.drew := (Below.refl _ _).drew
      have B8' : Below w8.heap.size w8 (w8.alloc (.cells #[.int .i64 0, .int .i64 0, .int .i64 0] 35)).drew := ((Below.refl _ w8).alloc (Nat.le_refl _) _).drew
      have Z8 := blk_drew (Blk.new' w8 35 #[.int .i64 0, .int .i64 0, .int .i64 0] (g := w8.heap.size) rfl)
      have hz8n : w8.heap.size < (w8.alloc (.cells #[.int .i64 0, .int .i64 0, .int .i64 0] 35)).drew.heap.size := by show w8.heap.size < (w8.alloc _).heap.size; simp
      have h9 : ∀ w9, Below w8.heap.size w8 w9 → w9.cell? ⟨w.heap.size, 0, none⟩ = some (.slice v.Ac v.nc v.cc) ∧ w9.cell? ⟨w.heap.size, 1, none⟩ = some (.slice v.An v.nn v.cn) ∧ w9.cell? ⟨w.heap.size, 2, none⟩ = some (.slice v.Aa v.na v.ca) ∧ w9.cell? ⟨b, off + i * 3, none⟩ = some (.int .i64 ep) ∧ w9.cell? ⟨b, off + i * 3 + 1, none⟩ = some (.int .i64 ed) ∧ w9.cell? ⟨b, off + i * 3 + 2, none⟩ = some (.string ei) ∧ Below w8.heap.size w8 w9 := fun w9 h => by
        have K9 := K8.below h K8.lt
        exact ⟨K9.cell 0, K9.cell 1, K9.cell 2, ((bcell h).1 _ _ hbB).trans h0, ((bcell h).1 _ _ hbB).trans h1, ((bcell h).1 _ _ hbB).trans h2, h⟩
      have H9 := Lib.hid h9
      clear h9
      go_cut [11, 12, 13] (fun a11 a12 a13 wx => a11 = .slice none 0 0 ∧ a13 = .int .i64 2 ∧ Below w8.heap.size w8 wx)
      case first =>
        go_region_held3 (fun w' => w'.cell? ⟨w.heap.size, 0, none⟩ = some (.slice v.Ac v.nc v.cc) ∧ w'.cell? ⟨w.heap.size, 1, none⟩ = some (.slice v.An v.nn v.cn) ∧ w'.cell? ⟨w.heap.size, 2, none⟩ = some (.slice v.Aa v.na v.ca) ∧ w'.cell? ⟨b, off + i * 3, none⟩ = some (.int .i64 ep) ∧ w'.cell? ⟨b, off + i * 3 + 1, none⟩ = some (.int .i64 ed) ∧ w'.cell? ⟨b, off + i * 3 + 2, none⟩ = some (.string ei) ∧ Below w8.heap.size w8 w')
          (first | exact H9.out _ ((Below.refl _ _).drew) | exact H9.out _ B8' | exact H9.out _ X9 | exact H9.out _ (X9.alloc hz9 _) | exact H9.out _ (((X9.setCell (Nat.le_refl _) _).setCell (Nat.le_refl _) _).setCell (Nat.le_refl _) _))
          (first
            | (go_at_call 12; (with_reducible refine (updateNo_any v d w8.heap.size S A n c ep ed ei w8.drew (HR8.out.below B8) hz8 hmx hsz8 hok).mono ?_); rintro e w9 ⟨rfl, hb9⟩; have X9 : Below w8.heap.size w8 w9 := B8.trans (hb9.mono (Nat.le_refl _)); have hz9 : w8.heap.size ≤ w9.heap.size := X9.size)
            | (go_at_call 12; (with_reducible refine (updateNo_any v d w8.heap.size S A n c ep ed ei _ (HR8.out.below B8') hz8' hmx hsz8 hok).mono ?_); rintro e w9 ⟨rfl, hb9⟩; have X9 : Below w8.heap.size w8 w9 := B8'.trans (hb9.mono hz8'); have hz9 : w8.heap.size ≤ w9.heap.size := X9.size; have Z9 := Z8.below hb9 hz8n; have n0 := Z9.cell 0; have n1 := Z9.cell 1; have n2 := Z9.cell 2; have m0 := Z9.frozen 0; have m1 := Z9.frozen 1; have m2 := Z9.frozen 2; simp at n0 n1 n2))
        all_goals
          go_wp2_with fail
          go_meet
          first
            | exact ⟨rfl, rfl, X9.alloc hz9 _⟩
            | exact ⟨rfl, rfl, ((X9.setCell (Nat.le_refl _) _).setCell (Nat.le_refl _) _).setCell (Nat.le_refl _) _⟩
      case rest =>
        obtain ⟨rfl, rfl, X9⟩ := hcut
        rename World => w9
        go_wp2_with fail
        go_roundw
        case rel =>
          have hX := X9.size
          exact ⟨i + 1, S, A, n, c, by omega, rfl, rfl, by go_num, hS, HN.out, hc1, hc2, ⟨_, hX, HR8.out.below X9⟩, hb8.trans (X9.mono (by omega))⟩
        case measure => simp [intOf]; omega
    | true =>
      have hF : apF S ⟨ep, ed, ei⟩ = 0 := by simp [apF, hok]
      rw [hF]
      clear hF
      obtain ⟨q1, q2, q3, q4⟩ := Ed.ok_iff.1 hok
      simp only at q1 q2 q3 q4
      obtain ⟨P, rfl⟩ := Int.eq_ofNat_of_zero_le q1
      obtain ⟨D, rfl⟩ := Int.eq_ofNat_of_zero_le q2
      clear q1 q2
      have hTs := apT_size_ok hok
      simp only at hTs
      obtain ⟨T, hT⟩ : ∃ T, T = apT S ⟨P, D, ei⟩ := ⟨_, rfl⟩
      rw [← hT] at hTs ⊢
      have HT := Lib.hid hT
      have hTz : T.size ≤ 120 := by omega
      obtain ⟨nL, hnL⟩ : ∃ nL, nL = (lexL d T).length := ⟨_, rfl⟩
      have HNL := Lib.hid hnL
      have hnLs := lexL_len d T
      rw [← hnL] at hnLs
      clear hT hnL
      go_upto_region 10 with fail
      have hz8 : w8.heap.size ≤ w8.drew.heap.size := Nat.le_refl _
      have hz8' : w8.heap.size ≤ (w8.alloc (.cells #[.int .i64 0, .int .i64 0, .int .i64 0] 35)).drew.heap.size := by show w8.heap.size ≤ (w8.alloc _).heap.size; simp
      have B8 : Below w8.heap.size w8 w8.drew := (Below.refl _ _).drew
      have B8' : Below w8.heap.size w8 (w8.alloc (.cells #[.int .i64 0, .int .i64 0, .int .i64 0] 35)).drew := ((Below.refl _ w8).alloc (Nat.le_refl _) _).drew
      have Z8 := blk_drew (Blk.new' w8 35 #[.int .i64 0, .int .i64 0, .int .i64 0] (g := w8.heap.size) rfl)
      have hz8n : w8.heap.size < (w8.alloc (.cells #[.int .i64 0, .int .i64 0, .int .i64 0] 35)).drew.heap.size := by show w8.heap.size < (w8.alloc _).heap.size; simp
      have h9 : ∀ w9, Below w8.heap.size w8 w9 → w9.cell? ⟨w.heap.size, 0, none⟩ = some (.slice v.Ac v.nc v.cc) ∧ w9.cell? ⟨w.heap.size, 1, none⟩ = some (.slice v.An v.nn v.cn) ∧ w9.cell? ⟨w.heap.size, 2, none⟩ = some (.slice v.Aa v.na v.ca) ∧ w9.cell? ⟨b, off + i * 3, none⟩ = some (.int .i64 P) ∧ w9.cell? ⟨b, off + i * 3 + 1, none⟩ = some (.int .i64 D) ∧ w9.cell? ⟨b, off + i * 3 + 2, none⟩ = some (.string ei) ∧ Below w8.heap.size w8 w9 := fun w9 h => by
        have K9 := K8.below h K8.lt
        exact ⟨K9.cell 0, K9.cell 1, K9.cell 2, ((bcell h).1 _ _ hbB).trans h0, ((bcell h).1 _ _ hbB).trans h1, ((bcell h).1 _ _ hbB).trans h2, h⟩
      have H9 := Lib.hid h9
      clear h9
      go_cut [11, 12, 13] (fun a11 a12 a13 wx => ∃ (A9 : Option Addr) (c9 : Nat), a11 = .slice A9 nL c9 ∧ a13 = .int .i64 0 ∧ nL ≤ c9 ∧ c9 ≤ maxLen ∧ (∃ B9, B9 ≤ wx.heap.size ∧ Reads wx B9 4 A9 nL (toks (lexL d T))) ∧ Below w8.heap.size w8 wx)
      case first =>
        go_region_held3 (fun w' => w'.cell? ⟨w.heap.size, 0, none⟩ = some (.slice v.Ac v.nc v.cc) ∧ w'.cell? ⟨w.heap.size, 1, none⟩ = some (.slice v.An v.nn v.cn) ∧ w'.cell? ⟨w.heap.size, 2, none⟩ = some (.slice v.Aa v.na v.ca) ∧ w'.cell? ⟨b, off + i * 3, none⟩ = some (.int .i64 P) ∧ w'.cell? ⟨b, off + i * 3 + 1, none⟩ = some (.int .i64 D) ∧ w'.cell? ⟨b, off + i * 3 + 2, none⟩ = some (.string ei) ∧ Below w8.heap.size w8 w')
          (first | exact H9.out _ ((Below.refl _ _).drew) | exact H9.out _ B8' | exact H9.out _ X9 | exact H9.out _ (X9.alloc hz9 _) | exact H9.out _ (((X9.setCell (Nat.le_refl _) _).setCell (Nat.le_refl _) _).setCell (Nat.le_refl _) _))
          (first
            | (go_at_call 12; (with_reducible refine (updateOk_any v d k w8.heap.size S A n c P D ei w8.drew (HD8.out.below B8) HO.out (HR8.out.below B8) hz8 hc1 hc2 hsz8 hok).mono ?_); unfold RetUpd; rw [← HT.out, ← HNL.out]; rintro e w9 ⟨A9, c9, m9, q9, he, hc9, hm9, r9, hf9, hb9⟩; obtain ⟨g1, g2, g3, he'⟩ : ∃ g1 g2 g3, e = .returned (.tuple #[.slice A9 nL c9, .agg #[.int .i64 g1, .int .i64 g2, .int .i64 g3], .int .i64 0]) := ⟨_, _, _, he⟩; subst he'; clear he; have X9 : Below w8.heap.size w8 w9 := B8.trans (hb9.mono (Nat.le_refl _)); have hz9 : w8.heap.size ≤ w9.heap.size := X9.size)
            | (go_at_call 12; (with_reducible refine (updateOk_any v d k w8.heap.size S A n c P D ei _ (HD8.out.below B8') HO.out (HR8.out.below B8') hz8' hc1 hc2 hsz8 hok).mono ?_); unfold RetUpd; rw [← HT.out, ← HNL.out]; rintro e w9 ⟨A9, c9, m9, q9, he, hc9, hm9, r9, hf9, hb9⟩; obtain ⟨g1, g2, g3, he'⟩ : ∃ g1 g2 g3, e = .returned (.tuple #[.slice A9 nL c9, .agg #[.int .i64 g1, .int .i64 g2, .int .i64 g3], .int .i64 0]) := ⟨_, _, _, he⟩; subst he'; clear he; have X9 : Below w8.heap.size w8 w9 := B8'.trans (hb9.mono hz8'); have hz9 : w8.heap.size ≤ w9.heap.size := X9.size; have Z9 := Z8.below hb9 hz8n; have n0 := Z9.cell 0; have n1 := Z9.cell 1; have n2 := Z9.cell 2; have m0 := Z9.frozen 0; have m1 := Z9.frozen 1; have m2 := Z9.frozen 2; simp at n0 n1 n2))
        all_goals
          go_wp2_with fail
          go_meet
          first
            | exact ⟨A9, c9, rfl, rfl, hc9, hm9, ⟨_, by simp, r9.alloc (Nat.le_refl _) _⟩, X9.alloc hz9 _⟩
            | exact ⟨A9, c9, rfl, rfl, hc9, hm9, ⟨_, by simp, r9.set_far3 Z9 _ _ _⟩, ((X9.setCell (Nat.le_refl _) _).setCell (Nat.le_refl _) _).setCell (Nat.le_refl _) _⟩
      case rest =>
        obtain ⟨A9, c9, rfl, rfl, hc91, hc92, ⟨B9, hB9, r9⟩, X9⟩ := hcut
        rename World => w9
        have hX := X9.size
        have HR9 := Lib.hid (r9.more hB9)
        have K9 := K8.below X9 K8.lt
        have y0 := K9.cell 0
        have y1 := K9.cell 1
        have y2 := K9.cell 2
        simp at y0 y1 y2
        clear r9 hB9 k0 k1 k2 h0 h1 h2
        go_wp2_with fail
        refine (refLex_any v d k w9.heap.size T w9 ((HD8.out.below X9).more hX) (Nat.le_refl _) HO.out (by omega)).mono ?_
        unfold RetToks
        rw [← HNL.out]
        rintro e w10 ⟨A10, c10, rfl, hc101, hc102, r10, hb10⟩
        have hX10 := hb10.size
        go_wp2_with fail
        refine (same_any A9 A10 nL nL c9 c10 w9.heap.size w10.heap.size (lexL d T) (lexL d T) w10 (HR9.out.below hb10) r10 (by unfold maxLen; omega) (by unfold maxLen; omega)).mono ?_
        rw [sameT_iff.2 rfl]
        rintro e w11 ⟨rfl, n11, rfl⟩
        go_wp2_with fail
        go_roundw
        case rel =>
          exact ⟨i + 1, T, A9, nL, c9, by omega, rfl, rfl, by go_num, by omega, HNL.out, hc91, hc92, ⟨w9.heap.size, hX10, HR9.out.below (below_drewN hb10 _)⟩, hb8.trans (below_drewN ((X9.trans (hb10.mono hX)).mono (by omega)) _)⟩
        case measure => simp [intOf]; omega
end Go.Proofs.Ythpdfgfefmoaaaa
