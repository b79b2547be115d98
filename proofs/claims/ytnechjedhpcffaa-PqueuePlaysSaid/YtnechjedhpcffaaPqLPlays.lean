/- PqueuePlays returns true. -/
import Derived.Test.YtnechjedhpcffaaPqOps
import Derived.Test.YtnechjedhpcffaaPqKeys
namespace Go.Proofs.Ytnechjedhpcffaa
open Go.RowKit

abbrev ldP (p : Operand) : Op := .load 27 p
theorem ldP_eq (p : Operand) : Op.load 27 p = ldP p := rfl
/-- Both queues, beside each other. -/
structure Two (w : World) (base q g : Nat) (F : Nat → Prop) (L : List Ent) (nx ck : Nat) : Prop where
  qb : QB w base q F L nx ck
  rq : RQ w base F g L nx ck
theorem Two.below {w w' : World} {base q g nx ck : Nat} {F : Nat → Prop} {L : List Ent} (h : Two w base q g F L nx ck) (hb : Below w.heap.size w w') : Two w' base q g F L nx ck := ⟨h.qb.below hb, h.rq.below hb⟩
theorem Two.flt {w : World} {base q g nx ck : Nat} {F : Nat → Prop} {L : List Ent} (h : Two w base q g F L nx ck) : ∀ k, F k → k < w.heap.size := fun k hk => (h.qb.2 k hk).2
theorem rupd_yes (w : World) (base g : Nat) (F : Nat → Prop) (L : List Ent) (nx ck : Nat) (hd x0 x1 : Int) (e0 : Ent) (L' : List Ent) (h : RQ w base F g L nx ck) (hL : L.length ≤ 1000000) (hck : ck ≤ 100000000) (hp : L.Perm (e0 :: L')) (he : (e0.h : Int) = hd) (hh : (L.map Ent.h).Nodup) :
    Calls Try.prog 19 #[.pointer (some ⟨g, 0, none⟩), .int .i64 hd, .agg #[.int .i64 x0, .int .i64 x1]] w fun e w' =>
      e = .returned (.bool true) ∧ (∃ L2, (⟨x0, x1, e0.h, ck⟩ :: L').Perm L2 ∧ L2.length = L.length ∧ RQ w' base F g L2 nx (ck + 1)) ∧ Touch (Off base F) w w' :=
  (rupd_any w base g F L nx ck hd x0 x1 h hL hck).mono fun e w' hx => by
    rcases hx with ⟨_, h2, _⟩ | ⟨h1, i, y, h2, h3, h4, h5⟩
    · exact absurd he (h2 e0 (hp.mem_iff.2 (by simp)))
    · have hye : y = e0 := uniq_map hh (List.mem_of_getElem? h2) (hp.mem_iff.2 (by simp)) (by omega)
      subst hye
      refine ⟨h1, ⟨L.set i ⟨x0, x1, y.h, ck⟩, ?_, by rw [List.length_set], h4⟩, h5⟩
      have a1 := get_perm' h2
      have a2 := set_perm' (List.getElem?_eq_some_iff.1 h2).1 (⟨x0, x1, y.h, ck⟩ : Ent)
      exact (((hp.symm.trans a1).cons_inv).cons _).trans a2.symm
theorem rupd_no (w : World) (base g : Nat) (F : Nat → Prop) (L : List Ent) (nx ck : Nat) (hd x0 x1 : Int) (h : RQ w base F g L nx ck) (hL : L.length ≤ 1000000) (hck : ck ≤ 100000000) (hno : ∀ e ∈ L, (e.h : Int) ≠ hd) :
    Calls Try.prog 19 #[.pointer (some ⟨g, 0, none⟩), .int .i64 hd, .agg #[.int .i64 x0, .int .i64 x1]] w fun e w' => e = .returned (.bool false) ∧ Below w.heap.size w w' :=
  (rupd_any w base g F L nx ck hd x0 x1 h hL hck).mono fun e w' hx => by
    rcases hx with ⟨h1, _, h3⟩ | ⟨_, i, y, h2, h3, _⟩
    · exact ⟨h1, h3⟩
    · exact absurd h3 (hno y (List.mem_of_getElem? h2))
set_option maxRecDepth 100000 in
set_option maxHeartbeats 8000000 in
theorem lawPlays_any (A : Option Addr) (n c B : Nat) (l : List Opn) (w : World) (hl : Reads w B 4 A n (opns l)) (hB : B ≤ w.heap.size) (hn : n ≤ maxLen) (hwf : ∀ o ∈ l, (Lit.int .i64 o.h).wf = true) :
    Calls Try.prog 5 #[.slice A n c] w fun e w' => e = .returned (.bool true) ∧ Below w.heap.size w w' := by
  have HL := Lib.hid (hl.more hB)
  have HWF := Lib.hid hwf
  have HNE := Lib.hid run_neq_elem
  unfold maxLen at hn
  clear hl hwf
  go_enter Try.func5, Try.ntmps5
  go_wp2_with fail
  refine (newq_any w).mono ?_
  rintro e w1 ⟨rfl, ⟨F1, h1⟩, hb1⟩
  have hs1 := hb1.size
  have H1 : Hid (Two (w1.alloc (.cells #[.slice none 0 0, .int .i64 0, .int .i64 0] 41)) w.heap.size (w.heap.size + 1) w1.heap.size F1 [] 0 0) :=
    ⟨h1.alloc _, none, 0, Blk.new w1 _ _, World.ownsRow_nil _ _ _ _, ⟨fun hf => by have := (h1.2 _ hf).2; omega, hs1⟩, fun k hk => by simp [Value.ownBlock] at hk⟩
  have HB1 : Hid (Below w.heap.size w (w1.alloc (.cells #[.slice none 0 0, .int .i64 0, .int .i64 0] 41))) := hb1.alloc hs1 _
  obtain ⟨q, hq⟩ : ∃ q, w.heap.size + 1 = q := ⟨_, rfl⟩
  obtain ⟨g, hg⟩ : ∃ g, w1.heap.size = g := ⟨_, rfl⟩
  rw [hq, hg] at H1
  rw [hq]
  clear h1 hb1
  go_wp2_with fail
  try rw [hg]
  obtain ⟨w2, hw2⟩ : ∃ w2, w1.alloc (.cells #[.slice none 0 0, .int .i64 0, .int .i64 0] 41) = w2 := ⟨_, rfl⟩
  rw [hw2] at H1 HB1 ⊢
  clear hw2 hg hq hs1
  go_loopw [5] (fun x wr => ∃ i : Nat, i ≤ n ∧ i ≤ 200 ∧ x = .int .i64 i ∧ ∃ (F : Nat → Prop) (L : List Ent) (nx ck : Nat), L.length ≤ i ∧ nx ≤ i ∧ ck ≤ i ∧ Hid (Two wr w.heap.size q g F L nx ck) ∧ Hid (Below w.heap.size w wr)) (fun x _ => 200 - (intOf x).toNat)
  case atStart => exact ⟨0, Nat.zero_le _, Nat.zero_le _, rfl, F1, [], 0, 0, Nat.le_refl _, Nat.le_refl _, Nat.le_refl _, H1, HB1⟩
  case round =>
    obtain ⟨i, hi, hi2, rfl, F, L, nx, ck, hLi, hnx, hck, HT, HB⟩ := hrel
    clear H1 HB1
    by_cases hlt : i < n ∧ i < 200
    case neg =>
      have hend : decide (i < n) = false ∨ (decide (i < n) = true ∧ decide (i < 200) = false ∧ decide ((i : Int) < 200) = false) := by
        by_cases h : i < n
        · exact .inr ⟨by simp [h], by simp; omega, by simp; omega⟩
        · exact .inl (by simp [h])
      clear hlt
      rcases hend with h1 | ⟨h1, h2, h3⟩
      all_goals
        go_wp2_with fail
        refine (awake_any _).mono ?_
        rintro e w3 ⟨rfl, hb3⟩
        go_wp2_with fail
        go_ret
        exact ⟨rfl, HB.out.trans (hb3.mono HB.out.size)⟩
    case pos =>
      obtain ⟨hlt, hlt2⟩ := hlt
      have hltD : decide (i < n) = true := by simp [hlt]
      have hltD2 : decide (i < 200) = true := by simp [hlt2]
      have hltD3 : decide ((i : Int) < 200) = true := by simp; omega
      obtain ⟨b, off, o, hA, hbl, ho, p0, p1, p2, p3⟩ := (HL.out.below HB.out).opn_at hlt
      subst hA
      have hw1 := HWF.out o (List.mem_of_getElem? ho)
      have HOW := Lib.hid hw1
      obtain ⟨kk, hh, x0, x1⟩ := o
      simp only at p0 p1 p2 p3 HOW
      have hEND : Hid (∀ (w3 : World) (F3 : Nat → Prop) (L3 : List Ent) (nx3 ck3 : Nat), L3.length ≤ i + 1 → Two w3 w.heap.size q g F3 L3 nx3 ck3 → Calls Try.prog 14 #[.pointer (some ⟨q, 0, none⟩)] w3 fun e w4 => e = .returned (.int .i64 L3.length) ∧ Below w3.heap.size w3 w4) := fun w3 F3 L3 nx3 ck3 _ h3 => lenq_any h3.qb
      clear ho hw1
      have hcases : kk = 0 ∨ kk = 1 ∨ kk = 2 ∨ kk = 3 ∨ ((kk == 0) = false ∧ (kk == 1) = false ∧ (kk == 2) = false ∧ (kk == 3) = false) := by
        simp only [beq_eq_false_iff_ne, ne_eq]; omega
      rcases hcases with rfl | rfl | rfl | rfl | ⟨k1, k2, k3, k4⟩
      case inl =>
        have HTD : Hid (Two wr.drew w.heap.size q g F L nx ck) := HT.out.below ((Below.refl _ _).drew)
        have HBD : Hid (Below w.heap.size w wr.drew) := HB.out.drew
        have HSA := Lib.hid (show wr.drew.cell? ⟨b, off + i * 4 + 2, none⟩ = some (.int .i64 x0) ∧ wr.drew.cell? ⟨b, off + i * 4 + 3, none⟩ = some (.int .i64 x1) from ⟨p2, p3⟩)
        have hnx1 : nx < 100000000 := by omega
        have hck1 : ck < 100000000 := by omega
        have hnx2 : nx ≤ 100000000 := by omega
        have hck2 : ck ≤ 100000000 := by omega
        have hL2 : L.length ≤ 1000000 := by omega
        go_upto_region 10 with fail
        clear p0 p1 p2 p3
        simp only [ldP_eq]
        go_region_held3 (fun w' => w'.cell? ⟨b, off + i * 4 + 2, none⟩ = some (.int .i64 x0) ∧ w'.cell? ⟨b, off + i * 4 + 3, none⟩ = some (.int .i64 x1))
          (first | with_reducible exact HSA.out | with_reducible exact HSC.out | with_reducible exact HSB.out)
          (first
            | (go_at_call 11; (with_reducible refine (pushq_any x0 x1 HTD.out.qb hnx1 hck1).mono ?_); rintro e4 w4 ⟨rfl, G, h4, s4⟩; have HQ4 := Lib.hid h4; have HR4 := Lib.hid (HTD.out.rq.step s4); have hbb := s4.below HBD.out.size; have HB4 : Hid (Below w.heap.size w w4) := HBD.out.trans hbb; have hz4 := HB4.out.size; have HF4 : Hid (∀ k, G k → k < w4.heap.size) := fun k hk => (HQ4.out.2 k hk).2; have HSB := Lib.hid (show w4.cell? ⟨b, off + i * 4 + 2, none⟩ = some (.int .i64 x0) ∧ w4.cell? ⟨b, off + i * 4 + 3, none⟩ = some (.int .i64 x1) from ⟨(hbb.cell (p := ⟨b, off + i * 4 + 2, none⟩) hbl).trans HSA.out.1, (hbb.cell (p := ⟨b, off + i * 4 + 3, none⟩) hbl).trans HSA.out.2⟩); clear h4 s4 hbb)
            | (go_at_call 15; (with_reducible refine (rpush_any w4 w.heap.size g G L nx ck x0 x1 HR4.out hz4 HF4.out hL2 hnx2 hck2).mono ?_); rintro e5 w5 ⟨rfl, h5, t5⟩; have HT5 : Hid (Two w5 w.heap.size q g G (L ++ [⟨x0, x1, nx, ck⟩]) (nx + 1) (ck + 1)) := ⟨HQ4.out.off t5, h5⟩; have hbb := t5.offBelow hz4; have HB5 : Hid (Below w.heap.size w w5) := HB4.out.trans hbb; have HSC := Lib.hid (show w5.cell? ⟨b, off + i * 4 + 2, none⟩ = some (.int .i64 x0) ∧ w5.cell? ⟨b, off + i * 4 + 3, none⟩ = some (.int .i64 x1) from ⟨(hbb.cell (p := ⟨b, off + i * 4 + 2, none⟩) hbl).trans HSB.out.1, (hbb.cell (p := ⟨b, off + i * 4 + 3, none⟩) hbl).trans HSB.out.2⟩); clear h5 t5 hbb))
        all_goals
          have hq1 : ((nx : Int) != (nx : Int)) = false := by simp
          obtain ⟨L7, hL7⟩ : ∃ L7, L ++ [⟨x0, x1, nx, ck⟩] = L7 := ⟨_, rfl⟩
          rw [hL7] at HT5
          have hL7b : L7.length ≤ i + 1 := by rw [← hL7]; rw [List.length_append]; simp; omega
          have hL7c : L7.length ≤ 1000000 := by omega
          clear hL7
          go_wp2_with fail
          refine (lenq_any HT5.out.qb).mono ?_
          rintro e7 w7 ⟨rfl, hb7⟩
          have HT7 := Lib.hid (HT5.out.below hb7)
          have HB7 : Hid (Below w.heap.size w w7) := HB5.out.trans (hb7.mono HB5.out.size)
          clear hb7
          go_wp2_with fail
          refine (rlen_any w7 w.heap.size g G L7 _ _ HT7.out.rq hL7c).mono ?_
          rintro e8 w8 ⟨rfl, hb8⟩
          have HT8 := Lib.hid (HT7.out.below hb8)
          have HB8 : Hid (Below w.heap.size w w8) := HB7.out.trans (hb8.mono HB7.out.size)
          have hqq : ((L7.length : Int) != (L7.length : Int)) = false := by simp
          clear hb8
          go_wp2_with fail
          go_roundw
          case rel => exact ⟨i + 1, by omega, by omega, by go_num, G, L7, nx + 1, ck + 1, hL7b, by omega, by omega, HT8, HB8⟩
          case measure => simp [intOf]; omega
      case inr.inl =>
        have hL2 : L.length ≤ 1000000 := by omega
        have HD : Hid ((L.map Ent.t).Nodup) := HT.out.qb.ok.td
        have hE := HNE.out
        by_cases hL : L = []
        case pos =>
          subst hL
          clear p1 p2 p3 hE
          go_wp2_with fail
          refine (peekq_none HT.out.qb).mono ?_
          rintro e4 w4 ⟨rfl, hb4⟩
          have HT4 := Lib.hid ((HT.out.below hb4).below ((Below.refl _ w4).alloc (Nat.le_refl _) (.cells #[.int .i64 0, .int .i64 0] 27)))
          have hbx := hb4.trans (((Below.refl _ w4).alloc (Nat.le_refl _) (.cells #[.int .i64 0, .int .i64 0] 27)).mono hb4.size)
          have HB4 : Hid (Below w.heap.size w (w4.alloc (.cells #[.int .i64 0, .int .i64 0] 27))) := HB.out.trans (hbx.mono HB.out.size)
          have HX4 := Lib.hid (Blk.new w4 27 #[.int .i64 0, .int .i64 0])
          clear hb4 hbx
          go_wp2_with fail
          refine (rpeek_none _ w.heap.size g F nx ck HT4.out.rq).mono ?_
          rintro e5 w5 ⟨rfl, hb5⟩
          have HT5 := Lib.hid ((HT4.out.below hb5).below ((Below.refl _ w5).alloc (Nat.le_refl _) (.cells #[.int .i64 0, .int .i64 0] 27)))
          have HB5 : Hid (Below w.heap.size w (w5.alloc (.cells #[.int .i64 0, .int .i64 0] 27))) := (HB4.out.trans (hb5.mono HB4.out.size)).alloc (Nat.le_trans HB4.out.size hb5.size) _
          have HX5 := (HX4.out.below hb5 HX4.out.lt).alloc (.cells #[.int .i64 0, .int .i64 0] 27)
          have x0' : (w5.alloc (.cells #[.int .i64 0, .int .i64 0] 27)).cell? ⟨w4.heap.size, 0, none⟩ = some (.int .i64 0) := HX5.cell 0
          have x1' : (w5.alloc (.cells #[.int .i64 0, .int .i64 0] 27)).cell? ⟨w4.heap.size, 1, none⟩ = some (.int .i64 0) := HX5.cell 1
          clear hb5 HX5
          have hE := HNE.out
          obtain ⟨L7, hL7⟩ : ∃ L7, ([] : List Ent) = L7 := ⟨_, rfl⟩
          rw [hL7] at HT5
          have hL7b : L7.length ≤ i + 1 := by rw [← hL7]; simp
          have hL7c : L7.length ≤ 1000000 := by omega
          clear hL7
          go_wp2_with fail
          refine (lenq_any HT5.out.qb).mono ?_
          rintro e7 w7 ⟨rfl, hb7⟩
          have HT7 := Lib.hid (HT5.out.below hb7)
          have HB7 : Hid (Below w.heap.size w w7) := HB5.out.trans (hb7.mono HB5.out.size)
          clear hb7
          go_wp2_with fail
          refine (rlen_any w7 w.heap.size g F L7 _ _ HT7.out.rq hL7c).mono ?_
          rintro e8 w8 ⟨rfl, hb8⟩
          have HT8 := Lib.hid (HT7.out.below hb8)
          have HB8 : Hid (Below w.heap.size w w8) := HB7.out.trans (hb8.mono HB7.out.size)
          have hqq : ((L7.length : Int) != (L7.length : Int)) = false := by simp
          clear hb8
          go_wp2_with fail
          go_roundw
          case rel => exact ⟨i + 1, by omega, by omega, by go_num, F, L7, nx, ck, hL7b, by omega, by omega, HT8, HB8⟩
          case measure => simp [intOf]; omega
        case neg =>
          obtain ⟨m, L', hmin, hperm⟩ := popq_first HT.out.qb hL
          have HMIN := Lib.hid hmin
          have HLN := Lib.hid hL
          clear p1 p2 p3 hE hL hmin hperm
          obtain ⟨m0, m1, mh, mt⟩ := m
          go_wp2_with fail
          refine (peekq_any HT.out.qb HMIN.out).mono ?_
          rintro e4 w4 ⟨rfl, hb4⟩
          have HT4 := Lib.hid ((HT.out.below hb4).below ((Below.refl _ w4).alloc (Nat.le_refl _) (.cells #[.int .i64 m0, .int .i64 m1] 27)))
          have hbx := hb4.trans (((Below.refl _ w4).alloc (Nat.le_refl _) (.cells #[.int .i64 m0, .int .i64 m1] 27)).mono hb4.size)
          have HB4 : Hid (Below w.heap.size w (w4.alloc (.cells #[.int .i64 m0, .int .i64 m1] 27))) := HB.out.trans (hbx.mono HB.out.size)
          have HX4 := Lib.hid (Blk.new w4 27 #[.int .i64 m0, .int .i64 m1])
          clear hb4 hbx
          go_wp2_with fail
          refine (rpeek_some _ w.heap.size g F L nx ck HT4.out.rq HD.out hL2 HLN.out).mono ?_
          rintro e5 w5 ⟨m', hm', rfl, hb5⟩
          obtain rfl := hm'.uniq HMIN.out HD.out
          have HT5 := Lib.hid ((HT4.out.below hb5).below ((Below.refl _ w5).alloc (Nat.le_refl _) (.cells #[.int .i64 m0, .int .i64 m1] 27)))
          have HB5 : Hid (Below w.heap.size w (w5.alloc (.cells #[.int .i64 m0, .int .i64 m1] 27))) := (HB4.out.trans (hb5.mono HB4.out.size)).alloc (Nat.le_trans HB4.out.size hb5.size) _
          have HX5 := (HX4.out.below hb5 HX4.out.lt).alloc (.cells #[.int .i64 m0, .int .i64 m1] 27)
          have x0' : (w5.alloc (.cells #[.int .i64 m0, .int .i64 m1] 27)).cell? ⟨w4.heap.size, 0, none⟩ = some (.int .i64 m0) := HX5.cell 0
          have x1' : (w5.alloc (.cells #[.int .i64 m0, .int .i64 m1] 27)).cell? ⟨w4.heap.size, 1, none⟩ = some (.int .i64 m1) := HX5.cell 1
          clear hb5 HX5 hm'
          have hE := HNE.out
          obtain ⟨L7, hL7⟩ : ∃ L7, L = L7 := ⟨_, rfl⟩
          rw [hL7] at HT5
          have hL7b : L7.length ≤ i + 1 := by rw [← hL7]; omega
          have hL7c : L7.length ≤ 1000000 := by omega
          clear hL7
          go_wp2_with fail
          refine (lenq_any HT5.out.qb).mono ?_
          rintro e7 w7 ⟨rfl, hb7⟩
          have HT7 := Lib.hid (HT5.out.below hb7)
          have HB7 : Hid (Below w.heap.size w w7) := HB5.out.trans (hb7.mono HB5.out.size)
          clear hb7
          go_wp2_with fail
          refine (rlen_any w7 w.heap.size g F L7 _ _ HT7.out.rq hL7c).mono ?_
          rintro e8 w8 ⟨rfl, hb8⟩
          have HT8 := Lib.hid (HT7.out.below hb8)
          have HB8 : Hid (Below w.heap.size w w8) := HB7.out.trans (hb8.mono HB7.out.size)
          have hqq : ((L7.length : Int) != (L7.length : Int)) = false := by simp
          clear hb8
          go_wp2_with fail
          go_roundw
          case rel => exact ⟨i + 1, by omega, by omega, by go_num, F, L7, nx, ck, hL7b, by omega, by omega, HT8, HB8⟩
          case measure => simp [intOf]; omega
      case inr.inr.inl =>
        have hL2 : L.length ≤ 1000000 := by omega
        have HD : Hid ((L.map Ent.t).Nodup) := HT.out.qb.ok.td
        by_cases hL : L = []
        case pos =>
          subst hL
          clear p1 p2 p3
          go_wp2_with fail
          refine (popq_none HT.out.qb).mono ?_
          rintro e4 w4 ⟨rfl, hb4⟩
          have HT4 := Lib.hid ((HT.out.below hb4).below ((Below.refl _ w4).alloc (Nat.le_refl _) (.cells #[.int .i64 0, .int .i64 0] 27)))
          have hbx := hb4.trans (((Below.refl _ w4).alloc (Nat.le_refl _) (.cells #[.int .i64 0, .int .i64 0] 27)).mono hb4.size)
          have HB4 : Hid (Below w.heap.size w (w4.alloc (.cells #[.int .i64 0, .int .i64 0] 27))) := HB.out.trans (hbx.mono HB.out.size)
          have HX4 := Lib.hid (Blk.new w4 27 #[.int .i64 0, .int .i64 0])
          clear hb4 hbx
          go_wp2_with fail
          refine (rpop_none _ w.heap.size g F nx ck HT4.out.rq).mono ?_
          rintro e5 w5 ⟨rfl, hb5⟩
          have HT5 := Lib.hid ((HT4.out.below hb5).below ((Below.refl _ w5).alloc (Nat.le_refl _) (.cells #[.int .i64 0, .int .i64 0] 27)))
          have HB5 : Hid (Below w.heap.size w (w5.alloc (.cells #[.int .i64 0, .int .i64 0] 27))) := (HB4.out.trans (hb5.mono HB4.out.size)).alloc (Nat.le_trans HB4.out.size hb5.size) _
          have HX5 := (HX4.out.below hb5 HX4.out.lt).alloc (.cells #[.int .i64 0, .int .i64 0] 27)
          have x0' : (w5.alloc (.cells #[.int .i64 0, .int .i64 0] 27)).cell? ⟨w4.heap.size, 0, none⟩ = some (.int .i64 0) := HX5.cell 0
          have x1' : (w5.alloc (.cells #[.int .i64 0, .int .i64 0] 27)).cell? ⟨w4.heap.size, 1, none⟩ = some (.int .i64 0) := HX5.cell 1
          clear hb5 HX5
          have hE := HNE.out
          obtain ⟨L7, hL7⟩ : ∃ L7, ([] : List Ent) = L7 := ⟨_, rfl⟩
          rw [hL7] at HT5
          have hL7b : L7.length ≤ i + 1 := by rw [← hL7]; simp
          have hL7c : L7.length ≤ 1000000 := by omega
          clear hL7
          go_wp2_with fail
          refine (lenq_any HT5.out.qb).mono ?_
          rintro e7 w7 ⟨rfl, hb7⟩
          have HT7 := Lib.hid (HT5.out.below hb7)
          have HB7 : Hid (Below w.heap.size w w7) := HB5.out.trans (hb7.mono HB5.out.size)
          clear hb7
          go_wp2_with fail
          refine (rlen_any w7 w.heap.size g F L7 _ _ HT7.out.rq hL7c).mono ?_
          rintro e8 w8 ⟨rfl, hb8⟩
          have HT8 := Lib.hid (HT7.out.below hb8)
          have HB8 : Hid (Below w.heap.size w w8) := HB7.out.trans (hb8.mono HB7.out.size)
          have hqq : ((L7.length : Int) != (L7.length : Int)) = false := by simp
          clear hb8
          go_wp2_with fail
          go_roundw
          case rel => exact ⟨i + 1, by omega, by omega, by go_num, F, L7, nx, ck, hL7b, by omega, by omega, HT8, HB8⟩
          case measure => simp [intOf]; omega
        case neg =>
          obtain ⟨m, L', hmin, hperm⟩ := popq_first HT.out.qb hL
          have HMIN := Lib.hid hmin
          have HPERM := Lib.hid hperm
          have HLN := Lib.hid hL
          clear p1 p2 p3 hL hmin hperm
          obtain ⟨m0, m1, mh, mt⟩ := m
          go_wp2_with fail
          refine (popq_any HT.out.qb HMIN.out HPERM.out).mono ?_
          rintro e4 w4 ⟨rfl, G, h4, s4⟩
          have HQ4 := Lib.hid (h4.alloc (.cells #[.int .i64 m0, .int .i64 m1] 27))
          have HR4 := Lib.hid ((HT.out.rq.step s4).below ((Below.refl _ w4).alloc (Nat.le_refl _) (.cells #[.int .i64 m0, .int .i64 m1] 27)))
          have hbb := s4.below HB.out.size
          have HB4 : Hid (Below w.heap.size w (w4.alloc (.cells #[.int .i64 m0, .int .i64 m1] 27))) := (HB.out.trans hbb).alloc (Nat.le_trans HB.out.size hbb.size) _
          have HX4 := Lib.hid (h4.new 27 #[.int .i64 m0, .int .i64 m1])
          have HF4 : Hid (∀ k, G k → k < (w4.alloc (.cells #[.int .i64 m0, .int .i64 m1] 27)).heap.size) := fun k hk => (HQ4.out.2 k hk).2
          have HNX : Hid (w4.heap.size ≠ g) := by
            intro e
            have h1 := (HT.out.rq.step s4).lt
            omega
          have HOG : Hid (Off w.heap.size G g) := by obtain ⟨_, _, _, _, h, _⟩ := HT.out.rq.step s4; exact h
          clear h4 s4 hbb
          go_wp2_with fail
          refine (rpop_some _ w.heap.size g G L nx ck HR4.out HB4.out.size HF4.out HD.out hL2 HLN.out).mono ?_
          rintro e5 w5 ⟨j, m', hm', hj, rfl, h5, t5⟩
          obtain rfl := hm'.uniq HMIN.out HD.out
          have hpp : L'.Perm (L.take j ++ L.drop (j + 1)) := by
            have h1 := get_perm' hj
            rw [List.eraseIdx_eq_take_drop_succ] at h1
            exact (HPERM.out.symm.trans h1).cons_inv
          have HT5' : Hid (Two w5 w.heap.size q g G (L.take j ++ L.drop (j + 1)) nx ck) := ⟨(HQ4.out.off (t5.mono (fun k hk => by subst hk; exact HOG.out))).perm hpp, h5⟩
          have HT5 := Lib.hid (HT5'.out.below ((Below.refl _ w5).alloc (Nat.le_refl _) (.cells #[.int .i64 m0, .int .i64 m1] 27)))
          have hbb := Touch.offBelow (t5.mono (fun k hk => by subst hk; exact HOG.out)) HB4.out.size
          have HB5 : Hid (Below w.heap.size w (w5.alloc (.cells #[.int .i64 m0, .int .i64 m1] 27))) := (HB4.out.trans hbb).alloc (Nat.le_trans HB4.out.size hbb.size) _
          have hjl := (List.getElem?_eq_some_iff.1 hj).1
          have hlen5 : (L.take j ++ L.drop (j + 1)).length ≤ i + 1 := by rw [List.length_append, List.length_take, List.length_drop]; omega
          have HX5 : Blk (w5.alloc (.cells #[.int .i64 m0, .int .i64 m1] 27)) w4.heap.size 27 #[.int .i64 m0, .int .i64 m1] := (HX4.out.1.touch t5 HNX.out).alloc _
          have x0' : (w5.alloc (.cells #[.int .i64 m0, .int .i64 m1] 27)).cell? ⟨w4.heap.size, 0, none⟩ = some (.int .i64 m0) := HX5.cell 0
          have x1' : (w5.alloc (.cells #[.int .i64 m0, .int .i64 m1] 27)).cell? ⟨w4.heap.size, 1, none⟩ = some (.int .i64 m1) := HX5.cell 1
          clear hj h5 t5 hbb hjl hpp HX5 hm'
          have hE := HNE.out
          obtain ⟨L7, hL7⟩ : ∃ L7, L.take j ++ L.drop (j + 1) = L7 := ⟨_, rfl⟩
          rw [hL7] at HT5
          have hL7b : L7.length ≤ i + 1 := by rw [← hL7]; exact hlen5
          have hL7c : L7.length ≤ 1000000 := by omega
          clear hL7
          go_wp2_with fail
          refine (lenq_any HT5.out.qb).mono ?_
          rintro e7 w7 ⟨rfl, hb7⟩
          have HT7 := Lib.hid (HT5.out.below hb7)
          have HB7 : Hid (Below w.heap.size w w7) := HB5.out.trans (hb7.mono HB5.out.size)
          clear hb7
          go_wp2_with fail
          refine (rlen_any w7 w.heap.size g G L7 _ _ HT7.out.rq hL7c).mono ?_
          rintro e8 w8 ⟨rfl, hb8⟩
          have HT8 := Lib.hid (HT7.out.below hb8)
          have HB8 : Hid (Below w.heap.size w w8) := HB7.out.trans (hb8.mono HB7.out.size)
          have hqq : ((L7.length : Int) != (L7.length : Int)) = false := by simp
          clear hb8
          go_wp2_with fail
          go_roundw
          case rel => exact ⟨i + 1, by omega, by omega, by go_num, G, L7, nx, ck, hL7b, by omega, by omega, HT8, HB8⟩
          case measure => simp [intOf]; omega
      case inr.inr.inr.inl =>
        have HTD : Hid (Two wr.drew w.heap.size q g F L nx ck) := HT.out.below ((Below.refl _ _).drew)
        have HBD : Hid (Below w.heap.size w wr.drew) := HB.out.drew
        have HSA := Lib.hid (show wr.drew.cell? ⟨b, off + i * 4 + 1, none⟩ = some (.int .i64 hh) ∧ wr.drew.cell? ⟨b, off + i * 4 + 2, none⟩ = some (.int .i64 x0) ∧ wr.drew.cell? ⟨b, off + i * 4 + 3, none⟩ = some (.int .i64 x1) from ⟨p1, p2, p3⟩)
        have hck1 : ck < 100000000 := by omega
        have hck2 : ck ≤ 100000000 := by omega
        have hL2 : L.length ≤ 1000000 := by omega
        have HH : Hid ((L.map Ent.h).Nodup) := HT.out.qb.1.hd
        go_upto_region 23 with fail
        clear p0 p1 p2 p3
        simp only [ldP_eq]
        by_cases hex : ∃ e ∈ L, (e.h : Int) = hh
        case pos =>
          obtain ⟨e0, L', HP0, hh0⟩ : ∃ (e0 : Ent) (L' : List Ent), L.Perm (e0 :: L') ∧ (e0.h : Int) = hh := by
            obtain ⟨e0, h1, h2⟩ := hex
            obtain ⟨j0, hj0⟩ := List.getElem?_of_mem h1
            exact ⟨e0, _, get_perm' hj0, h2⟩
          have HP := Lib.hid HP0
          have HH0 := Lib.hid hh0
          clear hex HP0 hh0
          go_region_held3 (fun w' => w'.cell? ⟨b, off + i * 4 + 1, none⟩ = some (.int .i64 hh) ∧ w'.cell? ⟨b, off + i * 4 + 2, none⟩ = some (.int .i64 x0) ∧ w'.cell? ⟨b, off + i * 4 + 3, none⟩ = some (.int .i64 x1))
            (first | with_reducible exact HSA.out | with_reducible exact HSC.out | with_reducible exact HSB.out)
            (first
              | (go_at_call 13; (with_reducible refine (updq_any x0 x1 HTD.out.qb HOW.out hck1 HP.out HH0.out).mono ?_); rintro e4 w4 ⟨rfl, G, h4, s4⟩; have HQ4 := Lib.hid h4; have HR4 := Lib.hid (HTD.out.rq.step s4); have hbb := s4.below HBD.out.size; have HB4 : Hid (Below w.heap.size w w4) := HBD.out.trans hbb; have hz4 := HB4.out.size; have HSB := Lib.hid (show w4.cell? ⟨b, off + i * 4 + 1, none⟩ = some (.int .i64 hh) ∧ w4.cell? ⟨b, off + i * 4 + 2, none⟩ = some (.int .i64 x0) ∧ w4.cell? ⟨b, off + i * 4 + 3, none⟩ = some (.int .i64 x1) from ⟨(hbb.cell (p := ⟨b, off + i * 4 + 1, none⟩) hbl).trans HSA.out.1, (hbb.cell (p := ⟨b, off + i * 4 + 2, none⟩) hbl).trans HSA.out.2.1, (hbb.cell (p := ⟨b, off + i * 4 + 3, none⟩) hbl).trans HSA.out.2.2⟩); clear h4 s4 hbb)
              | (go_at_call 19; (with_reducible refine (rupd_yes w4 w.heap.size g G L nx ck hh x0 x1 e0 L' HR4.out hL2 hck2 HP.out HH0.out HH.out).mono ?_); rintro e5 w5 ⟨rfl, ⟨L2, hp2, hl2, h5⟩, t5⟩; have HT5 : Hid (Two w5 w.heap.size q g G L2 nx (ck + 1)) := ⟨(HQ4.out.off t5).perm hp2, h5⟩; have hbb := t5.offBelow hz4; have HB5 : Hid (Below w.heap.size w w5) := HB4.out.trans hbb; have hlen5 : L2.length ≤ i + 1 := (by omega); have HSC := Lib.hid (show w5.cell? ⟨b, off + i * 4 + 1, none⟩ = some (.int .i64 hh) ∧ w5.cell? ⟨b, off + i * 4 + 2, none⟩ = some (.int .i64 x0) ∧ w5.cell? ⟨b, off + i * 4 + 3, none⟩ = some (.int .i64 x1) from ⟨(hbb.cell (p := ⟨b, off + i * 4 + 1, none⟩) hbl).trans HSB.out.1, (hbb.cell (p := ⟨b, off + i * 4 + 2, none⟩) hbl).trans HSB.out.2.1, (hbb.cell (p := ⟨b, off + i * 4 + 3, none⟩) hbl).trans HSB.out.2.2⟩); clear h5 t5 hbb hp2 hl2))
          all_goals
            obtain ⟨L7, hL7⟩ : ∃ L7, L2 = L7 := ⟨_, rfl⟩
            rw [hL7] at HT5
            have hL7b : L7.length ≤ i + 1 := by rw [← hL7]; exact hlen5
            have hL7c : L7.length ≤ 1000000 := by omega
            clear hL7
            go_wp2_with fail
            refine (lenq_any HT5.out.qb).mono ?_
            rintro e7 w7 ⟨rfl, hb7⟩
            have HT7 := Lib.hid (HT5.out.below hb7)
            have HB7 : Hid (Below w.heap.size w w7) := HB5.out.trans (hb7.mono HB5.out.size)
            clear hb7
            go_wp2_with fail
            refine (rlen_any w7 w.heap.size g G L7 _ _ HT7.out.rq hL7c).mono ?_
            rintro e8 w8 ⟨rfl, hb8⟩
            have HT8 := Lib.hid (HT7.out.below hb8)
            have HB8 : Hid (Below w.heap.size w w8) := HB7.out.trans (hb8.mono HB7.out.size)
            have hqq : ((L7.length : Int) != (L7.length : Int)) = false := by simp
            clear hb8
            go_wp2_with fail
            go_roundw
            case rel => exact ⟨i + 1, by omega, by omega, by go_num, G, L7, nx, ck + 1, hL7b, by omega, by omega, HT8, HB8⟩
            case measure => simp [intOf]; omega
        case neg =>
          have HNO : Hid (∀ e ∈ L, (e.h : Int) ≠ hh) := fun e he h => hex ⟨e, he, h⟩
          clear hex
          go_region_held3 (fun w' => w'.cell? ⟨b, off + i * 4 + 1, none⟩ = some (.int .i64 hh) ∧ w'.cell? ⟨b, off + i * 4 + 2, none⟩ = some (.int .i64 x0) ∧ w'.cell? ⟨b, off + i * 4 + 3, none⟩ = some (.int .i64 x1))
            (first | with_reducible exact HSA.out | with_reducible exact HSC.out | with_reducible exact HSB.out)
            (first
              | (go_at_call 13; (with_reducible refine (updq_no x0 x1 HTD.out.qb HOW.out HNO.out).mono ?_); rintro e4 w4 ⟨rfl, hb4⟩; have HT4 := Lib.hid (HTD.out.below hb4); have hbb := hb4.mono HBD.out.size; have HB4 : Hid (Below w.heap.size w w4) := HBD.out.trans hbb; have HSB := Lib.hid (show w4.cell? ⟨b, off + i * 4 + 1, none⟩ = some (.int .i64 hh) ∧ w4.cell? ⟨b, off + i * 4 + 2, none⟩ = some (.int .i64 x0) ∧ w4.cell? ⟨b, off + i * 4 + 3, none⟩ = some (.int .i64 x1) from ⟨(hbb.cell (p := ⟨b, off + i * 4 + 1, none⟩) hbl).trans HSA.out.1, (hbb.cell (p := ⟨b, off + i * 4 + 2, none⟩) hbl).trans HSA.out.2.1, (hbb.cell (p := ⟨b, off + i * 4 + 3, none⟩) hbl).trans HSA.out.2.2⟩); clear hb4 hbb)
              | (go_at_call 19; (with_reducible refine (rupd_no w4 w.heap.size g F L nx ck hh x0 x1 HT4.out.rq hL2 hck2 HNO.out).mono ?_); rintro e5 w5 ⟨rfl, hb5⟩; have HT5 := Lib.hid (HT4.out.below hb5); have hbb := hb5.mono HB4.out.size; have HB5 : Hid (Below w.heap.size w w5) := HB4.out.trans hbb; have HSC := Lib.hid (show w5.cell? ⟨b, off + i * 4 + 1, none⟩ = some (.int .i64 hh) ∧ w5.cell? ⟨b, off + i * 4 + 2, none⟩ = some (.int .i64 x0) ∧ w5.cell? ⟨b, off + i * 4 + 3, none⟩ = some (.int .i64 x1) from ⟨(hbb.cell (p := ⟨b, off + i * 4 + 1, none⟩) hbl).trans HSB.out.1, (hbb.cell (p := ⟨b, off + i * 4 + 2, none⟩) hbl).trans HSB.out.2.1, (hbb.cell (p := ⟨b, off + i * 4 + 3, none⟩) hbl).trans HSB.out.2.2⟩); clear hb5 hbb))
          all_goals
            obtain ⟨L7, hL7⟩ : ∃ L7, L = L7 := ⟨_, rfl⟩
            rw [hL7] at HT5
            have hL7b : L7.length ≤ i + 1 := by rw [← hL7]; omega
            have hL7c : L7.length ≤ 1000000 := by omega
            clear hL7
            go_wp2_with fail
            refine (lenq_any HT5.out.qb).mono ?_
            rintro e7 w7 ⟨rfl, hb7⟩
            have HT7 := Lib.hid (HT5.out.below hb7)
            have HB7 : Hid (Below w.heap.size w w7) := HB5.out.trans (hb7.mono HB5.out.size)
            clear hb7
            go_wp2_with fail
            refine (rlen_any w7 w.heap.size g F L7 _ _ HT7.out.rq hL7c).mono ?_
            rintro e8 w8 ⟨rfl, hb8⟩
            have HT8 := Lib.hid (HT7.out.below hb8)
            have HB8 : Hid (Below w.heap.size w w8) := HB7.out.trans (hb8.mono HB7.out.size)
            have hqq : ((L7.length : Int) != (L7.length : Int)) = false := by simp
            clear hb8
            go_wp2_with fail
            go_roundw
            case rel => exact ⟨i + 1, by omega, by omega, by go_num, F, L7, nx, ck, hL7b, by omega, by omega, HT8, HB8⟩
            case measure => simp [intOf]; omega
      case inr.inr.inr.inr =>
        clear p1 p2 p3
        obtain ⟨L7, hL7⟩ : ∃ L7, L = L7 := ⟨_, rfl⟩
        rw [hL7] at HT
        have hL7b : L7.length ≤ i + 1 := by rw [← hL7]; omega
        have hL7c : L7.length ≤ 1000000 := by omega
        clear hL7
        go_wp2_with fail
        refine (lenq_any HT.out.qb).mono ?_
        rintro e7 w7 ⟨rfl, hb7⟩
        have HT7 := Lib.hid (HT.out.below hb7)
        have HB7 : Hid (Below w.heap.size w w7) := HB.out.trans (hb7.mono HB.out.size)
        clear hb7
        go_wp2_with fail
        refine (rlen_any w7 w.heap.size g F L7 _ _ HT7.out.rq hL7c).mono ?_
        rintro e8 w8 ⟨rfl, hb8⟩
        have HT8 := Lib.hid (HT7.out.below hb8)
        have HB8 : Hid (Below w.heap.size w w8) := HB7.out.trans (hb8.mono HB7.out.size)
        have hqq : ((L7.length : Int) != (L7.length : Int)) = false := by simp
        clear hb8
        go_wp2_with fail
        go_roundw
        case rel => exact ⟨i + 1, by omega, by omega, by go_num, F, L7, nx, ck, hL7b, by omega, by omega, HT8, HB8⟩
        case measure => simp [intOf]; omega
end Go.Proofs.Ytnechjedhpcffaa
