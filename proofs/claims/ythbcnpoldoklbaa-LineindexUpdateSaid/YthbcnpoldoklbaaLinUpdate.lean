/- LineindexUpdate returns true for every input. -/
import Derived.Test.YthbcnpoldoklbaaLinInsert
import Derived.Test.YthbcnpoldoklbaaEdL
namespace Go.Proofs.Ythbcnpoldoklbaa
open Go.RowKit

theorem keep5 {w w' : World} {N g b i : Nat} {x y p q r : Value} (h0 : w.cell? ⟨g, 0, none⟩ = some x) (h1 : w.cell? ⟨g, 1, none⟩ = some y) (h2 : w.cell? ⟨b, i, none⟩ = some p) (h3 : w.cell? ⟨b, i + 1, none⟩ = some q) (h4 : w.cell? ⟨b, i + 2, none⟩ = some r) (hg : g < N) (hbn : b < N) (hb : Below N w w') :
    w'.cell? ⟨g, 0, none⟩ = some x ∧ w'.cell? ⟨g, 1, none⟩ = some y ∧ w'.cell? ⟨b, i, none⟩ = some p ∧ w'.cell? ⟨b, i + 1, none⟩ = some q ∧ w'.cell? ⟨b, i + 2, none⟩ = some r ∧ Below N w w' :=
  ⟨(hb.cell (p := ⟨g, 0, none⟩) hg).trans h0, (hb.cell (p := ⟨g, 1, none⟩) hg).trans h1, (hb.cell (p := ⟨b, i, none⟩) hbn).trans h2, (hb.cell (p := ⟨b, i + 1, none⟩) hbn).trans h3, (hb.cell (p := ⟨b, i + 2, none⟩) hbn).trans h4, hb⟩
theorem size_drew_le {w : World} {N : Nat} (h : N ≤ w.heap.size) : N ≤ w.drew.heap.size := h

set_option maxRecDepth 100000 in
set_option maxHeartbeats 4000000 in
theorem lawUpdate_any (s : ByteArray) (A : Option Addr) (n c : Nat) (l : List Ed) (w : World) (hl : Reads w w.heap.size 3 A n (eds l)) (_hnc : n ≤ c) (_hc : c ≤ maxLen) (_hs : s.size ≤ maxLen) (htl : ∀ t ∈ l, t.ins.size ≤ reachBytes) :
    Calls Try.prog 9 #[.string s, .slice A n c] w fun e w' => e = .returned (.bool true) ∧ Below w.heap.size w w' := by
  have hrb : reachBytes ≤ 140737488355328 := by decide
  by_cases hs : s.size ≤ 200
  case neg =>
    have d0 : decide ((200 : Int) < s.size) = true := by simp; omega
    have d1 : decide (200 < s.size) = true := by simp; omega
    go_enter Try.func9, Try.ntmps9
    go_wp2_with fail
    refine (awake_any _).mono ?_
    rintro e w1 ⟨rfl, hb1⟩
    go_wp2_with fail
    go_ret
    exact ⟨rfl, hb1⟩
  have d0 : decide ((200 : Int) < s.size) = false := by simp; omega
  have d1 : decide (200 < s.size) = false := by simp; omega
  by_cases hn : n ≤ 20
  case neg =>
    have e0 : decide ((20 : Int) < n) = true := by simp; omega
    have e1 : decide (20 < n) = true := by simp; omega
    go_enter Try.func9, Try.ntmps9
    go_wp2_with fail
    refine (awake_any _).mono ?_
    rintro e w1 ⟨rfl, hb1⟩
    go_wp2_with fail
    go_ret
    exact ⟨rfl, hb1⟩
  have e0 : decide ((20 : Int) < n) = false := by simp; omega
  have e1 : decide (20 < n) = false := by simp; omega
  have HL := Lib.hid hl
  have HTL := Lib.hid (show ∀ t ∈ l, t.ins.size ≤ 140737488355328 from fun t ht => Nat.le_trans (htl t ht) hrb)
  clear hl htl hrb _hs _hnc _hc
  go_enter Try.func9, Try.ntmps9
  go_wp2_with fail
  refine (new_any s _ (by omega)).mono ?_
  rintro e w1 ⟨A1, n1, c1, rfl, hn1, R1, hb1⟩
  go_wp2_with fail
  have hsz1 := hb1.size
  have K1 := Blk.new' w1 25 #[.string s, .slice A1 n1 c1] rfl
  have HR1 := Lib.hid (R1.alloc (Nat.le_refl _) (.cells #[.string s, .slice A1 n1 c1] 25))
  have hbb1 := hb1.alloc hsz1 (.cells #[.string s, .slice A1 n1 c1] 25)
  obtain ⟨g, hg⟩ : ∃ g, w1.heap.size = g := ⟨_, rfl⟩
  rw [hg] at K1 hsz1 HR1
  simp only [hg]
  have hgW := K1.lt
  have HR2 := Lib.hid (HR1.out.more (Nat.le_of_lt hgW))
  clear R1 hb1 hg HR1 d0 d1
  generalize w1.alloc (.cells #[.string s, .slice A1 n1 c1] 25) = w3 at *
  go_loopw [0, 6] (fun x a wr => ∃ (k : Nat) (T : ByteArray) (A2 : Option Addr) (n2 c2 : Nat), k ≤ n ∧ a = .int .i64 k ∧ x = .string T ∧ T.size ≤ 300 ∧ Hid (Blk wr g 25 #[.string T, .slice A2 n2 c2]) ∧ Hid (Reads wr wr.heap.size 1 A2 n2 (nats (starts T))) ∧ Below w.heap.size w wr) (fun _ a _ => n - (intOf a).toNat)
  case atStart => exact ⟨0, s, A1, n1, c1, Nat.zero_le _, rfl, rfl, by omega, K1, HR2.out, hbb1⟩
  case round =>
    obtain ⟨k, T, AT, nT, cT, hk, rfl, rfl, hT, HK, HR, hb⟩ := hrel
    have hsz := hb.size
    have hgl := HK.out.lt
    have hnl : nT ≤ 300 := by
      rw [← HR.out.nats_len]
      have := startsTo_length T T.size
      unfold starts
      omega
    have HNL := Lib.hid HR.out.nats_len
    by_cases hlt : k < n
    · obtain ⟨b, off, t, rfl, hbl, ht, h0, h1, h2⟩ := (HL.out.below hb).ed_at hlt
      have hib := HTL.out t (List.mem_of_getElem? ht)
      obtain ⟨ep, ed, ei⟩ := t
      simp only at h0 h1 h2 hib
      have hbr : b < wr.heap.size := by omega
      have v0 : IntKind.i64.wrap ((T.size : Int) + ei.size) = (T.size : Int) + ei.size := IntWalk.i64_in _ (by omega)
      clear ht
      by_cases hbig : T.size + ei.size ≤ 300
      case neg =>
        have d0 : decide ((300 : Int) < (T.size : Int) + ei.size) = true := by simp; omega
        have d1 : decide (300 < T.size + ei.size) = true := by simp; omega
        go_wp2_with fail
        refine (awake_any _).mono ?_
        rintro e w4 ⟨rfl, hb4⟩
        go_wp2_with fail
        go_ret
        exact ⟨rfl, hb.trans (hb4.mono hsz)⟩
      have d0 : decide ((300 : Int) < (T.size : Int) + ei.size) = false := by simp; omega
      have d1 : decide (300 < T.size + ei.size) = false := by simp; omega
      have HTE := Lib.hid (show T.size + ei.size ≤ 1048576 by omega)
      have x0 := HK.out.cell 0
      have x1 := HK.out.cell 1
      simp at x0 x1
      have hz1 : wr.heap.size ≤ wr.heap.size := Nat.le_refl _
      have i0 : (0 : Int) ≤ (k : Int) := by omega
      have i1 : (k : Int) < (n : Int) := by omega
      have SZ0 : wr.heap.size ≤ wr.drew.heap.size := Nat.le_refl _
      have SZ1 : wr.heap.size ≤ (wr.alloc (.cells #[.string ⟨#[]⟩, .slice none 0 0] 25)).drew.heap.size := size_al (Nat.le_refl _)
      go_wp2_with fail
      go_region_held3 (fun w' => w'.cell? ⟨g, 0, none⟩ = some (.string T) ∧ w'.cell? ⟨g, 1, none⟩ = some (.slice AT nT cT) ∧ w'.cell? ⟨b, off + k * 3, none⟩ = some (.int .i64 ep) ∧ w'.cell? ⟨b, off + k * 3 + 1, none⟩ = some (.int .i64 ed) ∧ w'.cell? ⟨b, off + k * 3 + 2, none⟩ = some (.string ei) ∧ Below wr.heap.size wr w')
        (first | exact keep5 x0 x1 h0 h1 h2 hgl hbr ((Below.refl _ _).drew) | exact keep5 x0 x1 h0 h1 h2 hgl hbr (((Below.refl _ wr).alloc hz1 _).drew) | exact keep5 x0 x1 h0 h1 h2 hgl hbr X3 | exact keep5 x0 x1 h0 h1 h2 hgl hbr (X3.alloc X3z _) | exact keep5 x0 x1 h0 h1 h2 hgl hbr ((X3.setCell hz1 _).setCell hz1 _))
        (first | (go_at_call 20; (with_reducible refine (update_any T _ ep ed ei _ HTE.out ⟨_, _, _, rfl⟩).mono ?_); rintro e w2 ⟨A2, n2, c2, rfl, hn2, Q2, hb2⟩; have X3 : Below wr.heap.size wr w2 := ((Below.refl _ wr).drew).trans (hb2.mono (SZ0)); have X3z : wr.heap.size ≤ w2.heap.size := Below.size_le X3 (Nat.le_refl _)) | (go_at_call 20; (with_reducible refine (update_any T _ ep ed ei _ HTE.out ⟨_, _, _, rfl⟩).mono ?_); rintro e w2 ⟨A2, n2, c2, rfl, hn2, Q2, hb2⟩; have X3 : Below wr.heap.size wr w2 := (((Below.refl _ wr).alloc hz1 _).drew).trans (hb2.mono (SZ1)); have X3z : wr.heap.size ≤ w2.heap.size := Below.size_le X3 (Nat.le_refl _); obtain ⟨n0, n1, m0, m1⟩ := newcellsU hb2))
      all_goals first
        | (have Q1 := (((Blk.new' (g := wr.heap.size) wr 25 #[.string ⟨#[]⟩, .slice none 0 0] rfl).drewN 1).below hb2 (by show wr.heap.size < (wr.alloc _).heap.size; simp)).set2 (.string (apT T ⟨ep, ed, ei⟩)) (.slice A2 n2 c2)
           have QR := Lib.hid (show Ed.ok T.size ⟨ep, ed, ei⟩ = true → Reads ((w2.setCell ⟨wr.heap.size, 0, none⟩ (.string (apT T ⟨ep, ed, ei⟩))).setCell ⟨wr.heap.size, 1, none⟩ (.slice A2 n2 c2)) w2.heap.size 1 A2 n2 (nats (starts (apT T ⟨ep, ed, ei⟩))) from fun h => (Q2 h).far_blk (((Blk.new' (g := wr.heap.size) wr 25 #[.string ⟨#[]⟩, .slice none 0 0] rfl).drewN 1).below hb2 (by show wr.heap.size < (wr.alloc _).heap.size; simp)) _ _)
           have Q3 := (X3.setCell (p := ⟨wr.heap.size, 0, none⟩) hz1 (.string (apT T ⟨ep, ed, ei⟩))).setCell (p := ⟨wr.heap.size, 1, none⟩) hz1 (.slice A2 n2 c2)
           have Q4 : wr.heap.size ≤ wr.heap.size := Nat.le_refl _
           have Q5 : w2.heap.size ≤ ((w2.setCell ⟨wr.heap.size, 0, none⟩ (.string (apT T ⟨ep, ed, ei⟩))).setCell ⟨wr.heap.size, 1, none⟩ (.slice A2 n2 c2)).heap.size := by simp
           clear Q2 X3 X3z n0 n1 m0 m1 hb2
           generalize (w2.setCell ⟨wr.heap.size, 0, none⟩ (.string (apT T ⟨ep, ed, ei⟩))).setCell ⟨wr.heap.size, 1, none⟩ (.slice A2 n2 c2) = W3 at *
           obtain ⟨n5, hn5⟩ : ∃ n5, wr.heap.size = n5 := ⟨_, rfl⟩
           have Q6 : wr.heap.size ≤ n5 := by omega
           simp only [hn5] at Q1 Q4 ⊢
           clear hn5)
        | (have Q1 := Blk.new' (g := w2.heap.size) w2 25 #[.string (apT T ⟨ep, ed, ei⟩), .slice A2 n2 c2] rfl
           have QR := Lib.hid (show Ed.ok T.size ⟨ep, ed, ei⟩ = true → Reads (w2.alloc (.cells #[.string (apT T ⟨ep, ed, ei⟩), .slice A2 n2 c2] 25)) w2.heap.size 1 A2 n2 (nats (starts (apT T ⟨ep, ed, ei⟩))) from fun h => (Q2 h).alloc (Nat.le_refl _) _)
           have Q3 := X3.alloc X3z (.cells #[.string (apT T ⟨ep, ed, ei⟩), .slice A2 n2 c2] 25)
           have Q6 := X3z
           have Q5 : w2.heap.size ≤ (w2.alloc (.cells #[.string (apT T ⟨ep, ed, ei⟩), .slice A2 n2 c2] 25)).heap.size := by simp
           clear Q2 X3 X3z hb2
           generalize w2.alloc (.cells #[.string (apT T ⟨ep, ed, ei⟩), .slice A2 n2 c2] 25) = W3 at *
           obtain ⟨n5, hn5⟩ : ∃ n5, w2.heap.size = n5 := ⟨_, rfl⟩
           have Q7 : w2.heap.size ≤ n5 := by omega
           simp only [hn5] at Q1 ⊢
           have Q6' : wr.heap.size ≤ n5 := by omega
           clear Q6
           have Q6 := Q6'
           clear hn5 Q7 Q6')
      all_goals
        have HQR : Hid (Ed.ok T.size ⟨ep, ed, ei⟩ = true → Reads W3 W3.heap.size 1 A2 n2 (nats (starts (apT T ⟨ep, ed, ei⟩)))) := Lib.hid fun h => (QR.out h).more Q5
        have hsT := apT_sz T ⟨ep, ed, ei⟩
        simp only at hsT
        obtain ⟨T2, hT2⟩ : ∃ T2, apT T ⟨ep, ed, ei⟩ = T2 := ⟨_, rfl⟩
        obtain ⟨E, hE⟩ : ∃ E, apF T ⟨ep, ed, ei⟩ = E := ⟨_, rfl⟩
        rw [hT2] at hsT HQR Q1
        rw [hT2, hE]
        have HT2 := Lib.hid hT2
        have HE := Lib.hid hE
        have hz3 := Q1.lt
        have K3 := HK.out.below Q3 hgl
        have HR3 := Lib.hid (HR.out.below (Q3))
        have hbb3 := hb.trans (Q3.mono hsz)
        have h0' := (Q3.cell (p := ⟨b, off + k * 3, none⟩) hbr).trans h0
        have h1' := (Q3.cell (p := ⟨b, off + k * 3 + 1, none⟩) hbr).trans h1
        have h2' := (Q3.cell (p := ⟨b, off + k * 3 + 2, none⟩) hbr).trans h2
        have HK3 := Lib.hid K3
        have HQ1 := Lib.hid Q1
        clear x0 x1 h0 h1 h2 hT2 hE QR d0 d1 v0 SZ0 SZ1 K3 Q1
        go_wp2_with fail
        refine (refUpdate_any T ep ed ei _ (by omega)).mono ?_
        rw [HT2.out, HE.out]
        rintro e w4 ⟨rfl, hb4⟩
        have hz4 := hb4.size
        have HK4 := Lib.hid (HK3.out.below hb4 (by omega))
        have HQ4 := Lib.hid (HQ1.out.below hb4 hz3)
        have HR4 := Lib.hid (HR3.out.below (hb4.mono (by omega)))
        have hbb4 := hbb3.trans (hb4.mono hbb3.size)
        have HQR4 : Hid (Ed.ok T.size ⟨ep, ed, ei⟩ = true → Reads w4 w4.heap.size 1 A2 n2 (nats (starts T2))) := Lib.hid fun h => ((HQR.out h).below hb4).more hz4
        clear h0' h1' h2' hbb3
        cases hok : Ed.ok T.size ⟨ep, ed, ei⟩ with
        | false =>
          have hE2 : E = 2 := by rw [← HE.out]; simp [apF, hok]
          subst hE2
          clear hok
          go_wp2_with fail
          go_roundw
          case rel => exact ⟨k + 1, T, AT, nT, cT, by omega, by go_num, rfl, hT, HK4, Lib.hid (HR4.out.more (by omega)), hbb4⟩
          case measure => simp [intOf]; omega
        | true =>
          have hE2 : E = 0 := by rw [← HE.out]; simp [apF, hok]
          subst hE2
          have HRR := Lib.hid (HQR4.out hok)
          have hn2 : n2 ≤ 300 := by
            rw [← HRR.out.nats_len]
            have := startsTo_length T2 T2.size
            unfold starts
            omega
          have q0 := HQ4.out.cell 0
          have q1 := HQ4.out.cell 1
          simp at q0 q1
          clear hok
          go_wp2_with fail
          refine (same_any T2 A2 n2 c2 w4.heap.size _ HRR.out (Nat.le_refl _) (by omega) (by omega)).mono ?_
          rintro e w5 ⟨rfl, hb5⟩
          have hz5 := hb5.size
          have HK5 := Lib.hid (HK4.out.below hb5 (by omega))
          have HQ5 := Lib.hid (HQ4.out.below hb5 (by omega))
          have HR5 := Lib.hid (HRR.out.below hb5)
          have hbb5 := hbb4.trans (hb5.mono hbb4.size)
          have x0 := HK5.out.cell 0
          have x1 := HK5.out.cell 1
          simp at x0 x1
          clear q0 q1
          go_wp2_with fail
          refine (lines_any T AT nT cT _ (by omega)).mono ?_
          rintro e w6 ⟨rfl, hb6⟩
          have hz6 := hb6.size
          have HK6 := Lib.hid (HK5.out.below hb6 (by omega))
          have HQ6 := Lib.hid (HQ5.out.below hb6 (by omega))
          have HR6 := Lib.hid (HR5.out.below (hb6.mono (by omega)))
          have hbb6 := hbb5.trans (hb6.mono hbb5.size)
          clear x0 x1
          go_wp2_with fail
          refine (refLines_any T _ (by omega)).mono ?_
          rintro e w7 ⟨A7, c7, rfl, R7, hb7⟩
          have hz7 := hb7.size
          have HK7 := Lib.hid (HK6.out.below hb7 (by omega))
          have HQ7 := Lib.hid (HQ6.out.below hb7 (by omega))
          have HR7 := Lib.hid (HR6.out.below (hb7.mono (by omega)))
          have hbb7 := hbb6.trans (hb7.mono hbb6.size)
          have hll : (linesL T).length = nT + 1 := by rw [linesL_length, HNL.out]
          rw [hll]
          have vne : (((nT : Int) + 1) != (((nT + 1 : Nat)) : Int)) = false := by simp
          have vne2 : (((nT : Int) + 1) != (nT : Int) + 1) = false := by simp
          have q0 := HQ7.out.cell 0
          have q1 := HQ7.out.cell 1
          have x0 := HK7.out.cell 0
          have x1 := HK7.out.cell 1
          have f0 := HK7.out.frozen 0
          have f1 := HK7.out.frozen 1
          simp at q0 q1 x0 x1
          clear R7 hll
          go_wp2_with fail
          go_roundw
          case rel =>
            refine ⟨k + 1, T2, A2, n2, c2, by omega, by go_num, rfl, by omega, ?_, ?_, ?_⟩
            · exact Lib.hid (HK7.out.set2 (.string T2) (.slice A2 n2 c2))
            · have := (HR7.out.far_blk HK7.out (.string T2) (.slice A2 n2 c2)).more (B' := ((w7.setCell ⟨g, 0, none⟩ (.string T2)).setCell ⟨g, 1, none⟩ (.slice A2 n2 c2)).heap.size) (by simp; omega)
              exact Lib.hid this
            · exact (hbb7.setCell (by simp; omega) _).setCell (by simp; omega) _
          case measure => simp [intOf]; omega
    · have x0 := HK.out.cell 0
      have x1 := HK.out.cell 1
      simp at x0 x1
      clear x0 x1
      go_wp2_with fail
      refine (awake_any _).mono ?_
      rintro e w4 ⟨rfl, hb4⟩
      have hz4 := hb4.size
      have x0 := (HK.out.below hb4 hgl).cell 0
      have x1 := (HK.out.below hb4 hgl).cell 1
      simp at x0 x1
      have HR4 := Lib.hid (HR.out.below hb4)
      have hbb4 := hb.trans (hb4.mono hsz)
      go_wp2_with fail
      refine (same_any T AT nT cT wr.heap.size _ HR4.out (by omega) (by omega) (by omega)).mono ?_
      rintro e w5 ⟨rfl, hb5⟩
      go_wp2_with fail
      go_ret
      exact ⟨rfl, hbb4.trans (hb5.mono hbb4.size)⟩
end Go.Proofs.Ythbcnpoldoklbaa
