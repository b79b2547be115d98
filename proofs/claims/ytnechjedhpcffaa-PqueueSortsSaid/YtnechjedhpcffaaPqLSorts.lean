/- PqueueSorts returns true. -/
import Derived.Test.YtnechjedhpcffaaPqKeys
import Derived.Deep.DeepCutAuto
namespace Go.Proofs.Ytnechjedhpcffaa
open Go.RowKit

theorem drew_cell2 {w : World} {p q : Addr} {v u : Value} (h : w.cell? p = some v ∧ w.cell? q = some u) : w.drew.cell? p = some v ∧ w.drew.cell? q = some u := h
theorem sorts_far {w : World} {gs gx j : Nat} {u a b : Value} (hx : w.cell? ⟨gx, 0, none⟩ = some a ∧ w.cell? ⟨gx, 1, none⟩ = some b) (hne : gs ≠ gx) : (w.setCell ⟨gs, j, none⟩ u).cell? ⟨gx, 0, none⟩ = some a ∧ (w.setCell ⟨gs, j, none⟩ u).cell? ⟨gx, 1, none⟩ = some b :=
  ⟨(World.cell?_setCell_far _ _ _ _ hne).trans hx.1, (World.cell?_setCell_far _ _ _ _ hne).trans hx.2⟩
theorem sorts_end {w : World} {gs gl j : Nat} {cs : Array Value} {l0 l1 u a b : Value} (S : Blk w gs 4 cs) (L : Blk w gl 27 #[l0, l1]) (hne : gs ≠ gl) :
    Blk (World.drew (((w.setCell ⟨gs, j, none⟩ u).setCell ⟨gl, 0, none⟩ a).setCell ⟨gl, 1, none⟩ b)) gs 4 (cs.setIfInBounds j u) ∧ Blk (World.drew (((w.setCell ⟨gs, j, none⟩ u).setCell ⟨gl, 0, none⟩ a).setCell ⟨gl, 1, none⟩ b)) gl 27 #[a, b] ∧
      Touch (fun k => k = gs ∨ k = gl) w (World.drew (((w.setCell ⟨gs, j, none⟩ u).setCell ⟨gl, 0, none⟩ a).setCell ⟨gl, 1, none⟩ b)) := by
  refine ⟨(((S.set_ j u).far (p := ⟨gl, 0, none⟩) hne a).far (p := ⟨gl, 1, none⟩) hne b).drewN 1, ?_, ((((Touch.refl (fun k => k = gs ∨ k = gl) w).setCell (p := ⟨gs, j, none⟩) (.inl (.inl rfl)) u).setCell (p := ⟨gl, 0, none⟩) (.inl (.inr rfl)) a).setCell (p := ⟨gl, 1, none⟩) (.inl (.inr rfl)) b).drew1⟩
  have h2 : Blk (((w.setCell ⟨gs, j, none⟩ u).setCell ⟨gl, 0, none⟩ a).setCell ⟨gl, 1, none⟩ b) gl 27 #[a, b] := by
    have := ((L.far (p := ⟨gs, j, none⟩) (fun e => hne e.symm) u).set_ 0 a).set_ 1 b
    simpa using this
  exact h2.drewN 1
set_option maxRecDepth 100000 in
set_option maxHeartbeats 4000000 in
theorem lawSorts_any (A : Option Addr) (n c B : Nat) (ks : List Int) (w : World) (hl : Reads w B 1 A n (ints ks)) (hB : B ≤ w.heap.size) :
    Calls Try.prog 3 #[.slice A n c] w fun e w' => e = .returned (.bool true) ∧ Below w.heap.size w w' := by
  have HL := Lib.hid (hl.more hB)
  clear hl
  have hmk := fun (n : Nat) (h : n ≤ 200) => run_make_row' (P := Try.prog) 30 4 (.bool false) 1 Try.underlying30 infoBool rfl .i64 .i64 n (by omega) (by omega)
  have HMK := Lib.hid hmk
  clear hmk
  go_enter Try.func3, Try.ntmps3
  by_cases hn : n ≤ 200
  case neg =>
    have hnD : decide ((200 : Int) < (n : Int)) = true := by simp; omega
    go_wp2_with fail
    refine (awake_any _).mono ?_
    rintro e wa ⟨rfl, hba⟩
    go_wp2_with fail
    go_ret
    exact ⟨rfl, hba⟩
  case pos =>
  have hnD : decide ((200 : Int) < (n : Int)) = false := by simp; omega
  go_wp2_with fail
  refine (newq_any w).mono ?_
  rintro e w1 ⟨rfl, ⟨F1, h1⟩, hb1⟩
  have H1 := Lib.hid h1
  have hs1 := hb1.size
  obtain ⟨q, hq⟩ : ∃ q, w.heap.size + 1 = q := ⟨_, rfl⟩
  rw [hq] at H1 ⊢
  clear h1 hq
  go_wp2_with fail
  go_loopw [4] (fun a wr => ∃ i : Nat, i ≤ n ∧ a = .int .i64 i ∧ (∃ F, Hid (QB wr w.heap.size q F (Lk ks i) i i)) ∧ Below w.heap.size w wr) (fun a _ => n - (intOf a).toNat)
  case atStart => exact ⟨0, Nat.zero_le _, rfl, ⟨F1, H1⟩, hb1⟩
  case round =>
    obtain ⟨i, hi, rfl, ⟨F, HQ⟩, hbr⟩ := hrel
    clear H1 hb1 hs1
    have hsr := hbr.size
    by_cases hlt : i < n
    case pos =>
      have hltD : decide (i < n) = true := by simp [hlt]
      obtain ⟨b, off, rfl, _, hk⟩ := (HL.out.below hbr).int_at hlt
      have hne : ((i : Int) != (i : Int)) = false := by simp
      go_wp2_with fail
      refine (pushq_any _ _ HQ.out (by omega) (by omega)).mono ?_
      rintro e w2 ⟨rfl, G, h2, s2⟩
      rw [Lk_succ] at h2
      have H2 := Lib.hid h2
      have hb2 := hbr.trans (s2.below hsr)
      clear h2 s2
      go_wp2_with fail
      go_roundw
      case rel => exact ⟨i + 1, by omega, by go_num, ⟨G, H2⟩, hb2⟩
      case measure => simp [intOf]; omega
    case neg =>
      have hltD : decide (i < n) = false := by simp [hlt]
      obtain rfl : i = n := by omega
      clear hlt hi
      have hmk := HMK.out i hn wr
      rw [seen_start ks i] at hmk
      go_wp2_with fail
      obtain ⟨w3, hw3⟩ : ∃ w3, (wr.alloc (.cells (seenC (Lk ks i) i) 4)).alloc (.cells #[.int .i64 0, .int .i64 0] 27) = w3 := ⟨_, rfl⟩
      have HQ3 : Hid (QB w3 w.heap.size q F (Lk ks i) i i) := by rw [← hw3]; exact (HQ.out.alloc _).alloc _
      have HS3 : Hid (PB w3 F wr.heap.size 4 (seenC (Lk ks i) i)) := by rw [← hw3]; exact (HQ.out.new _ _).below ((Below.refl _ _).alloc (Nat.le_refl _) _)
      have HL3 : Hid (PB w3 F (wr.heap.size + 1) 27 #[.int .i64 0, .int .i64 0]) := by
        rw [← hw3]
        have := (HQ.out.alloc (.cells (seenC (Lk ks i) i) 4)).new 27 #[.int .i64 0, .int .i64 0]
        rwa [World.size_alloc] at this
      have hb3 : Below w.heap.size w w3 := by rw [← hw3]; exact (hbr.alloc hsr _).alloc (by simp; omega) _
      obtain ⟨gs, hgs⟩ : ∃ gs, wr.heap.size = gs := ⟨_, rfl⟩
      obtain ⟨gl, hgl⟩ : ∃ gl, wr.heap.size + 1 = gl := ⟨_, rfl⟩
      rw [hgl] at HL3
      rw [hgs] at HS3
      have hgg : gs ≠ gl := by omega
      rw [hw3, hgs]
      try rw [hgs] at hgl
      try rw [hgl]
      have GG := Lib.hid hgg
      have HGS := Lib.hid (show w.heap.size ≤ gs ∧ w.heap.size ≤ gl by omega)
      clear hmk HMK HQ hbr hsr hw3 hgs hgl hgg
      clear wr
      go_loopw [7] (fun a wr => ∃ k : Nat, k ≤ i ∧ a = .int .i64 k ∧ (∃ (F : Nat → Prop) (R : List Ent) (lk li : Int), Hid (QB wr w.heap.size q F R i i) ∧ R.length = i - k ∧ Hid (∀ e ∈ R, e.h < i ∧ e = En ks e.h) ∧ Hid (PB wr F gs 4 (seenC R i)) ∧ Hid (PB wr F gl 27 #[.int .i64 lk, .int .i64 li]) ∧
        Hid (0 < k → ∀ e ∈ R, lk < e.key ∨ (lk = e.key ∧ li < e.id))) ∧ Below w.heap.size w wr) (fun a _ => i - (intOf a).toNat)
      case atStart => exact ⟨0, Nat.zero_le _, rfl, ⟨F, Lk ks i, 0, 0, HQ3, by rw [Lk_length]; omega, Lib.hid (fun e he => Lk_mem.1 he), HS3, HL3, Lib.hid (fun h => absurd h (by omega))⟩, hb3⟩
      case round =>
        obtain ⟨k, hk, rfl, ⟨F, R, lk, li, HQ, hR, HW, HS, HLA, HO⟩, hbr⟩ := hrel
        clear HQ3 HS3 HL3 hb3
        have hsr := hbr.size
        by_cases hlt : k < i
        case neg =>
          have hltD : decide (k < i) = false := by simp [hlt]
          obtain rfl : R = [] := List.eq_nil_of_length_eq_zero (by omega)
          go_wp2_with fail
          refine (popq_none HQ.out).mono ?_
          rintro e w4 ⟨rfl, hb4⟩
          have hb4' := (hbr.trans (hb4.mono hsr)).alloc (Nat.le_trans hsr hb4.size) (.cells #[.int .i64 0, .int .i64 0] 27)
          go_wp2_with fail
          refine (awake_any _).mono ?_
          rintro e w5 ⟨rfl, hb5⟩
          go_wp2_with fail
          go_ret
          exact ⟨rfl, hb4'.trans (hb5.mono hb4'.size)⟩
        case pos =>
        have hltD : decide (k < i) = true := by simp [hlt]
        have hne : R ≠ [] := by intro e; rw [e] at hR; simp at hR; omega
        go_wp2_with fail
        refine (popq_ex HQ.out hne).mono ?_
        rintro e w4 ⟨m, R', hmin, hperm, rfl, G, h4, s4⟩
        obtain ⟨hmi, hme⟩ := HW.out m hmin.1
        obtain ⟨j, hj⟩ : ∃ j, m.h = j := ⟨_, rfl⟩
        rw [hj] at hme hmi
        subst hme
        clear hj
        obtain ⟨kj, hkj⟩ : ∃ kj, kj = ks[j]?.getD 0 := ⟨_, rfl⟩
        have hlk : 0 < k → lk < kj ∨ (lk = kj ∧ li < (j : Int)) := fun h0 => by rw [hkj]; exact HO.out h0 _ hmin.1
        have hseen : (seenC R i)[j]? = some (.bool false) := by
          rw [seen_at hmi]
          have : R.any (fun e => e.h == j) = true := by
            rw [List.any_eq_true]
            exact ⟨_, hmin.1, by simp [En]⟩
          rw [this]; rfl
        have hnew : Hid (∀ e ∈ R', kj < e.key ∨ (kj = e.key ∧ (j : Int) < e.id)) := fun e he => by
          have h1 := hmin.2 e (hperm.mem_iff.2 (by simp [he])) (fun e2 => by
            have := (hperm.map Ent.t).nodup_iff.1 HQ.out.ok.td
            rw [List.map_cons, List.nodup_cons] at this
            exact this.1 (List.mem_map.2 ⟨e, he, e2⟩))
          rw [bf_iff] at h1
          obtain ⟨_, hee⟩ := HW.out e (hperm.mem_iff.2 (by simp [he]))
          have h2 : e.id = (e.t : Int) := by rw [hee]; rfl
          rw [hkj, h2]
          rcases h1 with h1 | ⟨h1, h3⟩
          · exact .inl h1
          · refine .inr ⟨h1, ?_⟩
            have h3' : j < e.t := h3
            omega
        have hpop : (seenC R i).setIfInBounds j (.bool true) = seenC R' i := seen_pop (m := En ks j) HQ.out.1.hd hperm
        have hR' : R'.length = i - (k + 1) := by have := hperm.length_eq; simp at this; omega
        have HW' := Lib.hid (show ∀ e ∈ R', e.h < i ∧ e = En ks e.h from fun e he => HW.out e (hperm.mem_iff.2 (by simp [he])))
        have hb4 := hbr.trans (s4.below hsr)
        have hs4 := hb4.size
        have HQ4 := Lib.hid h4
        have HS4 := Lib.hid (HS.out.step s4)
        have HL4 := Lib.hid (HLA.out.step s4)
        have HPOP := Lib.hid hpop
        have HR' := Lib.hid hR'
        clear hmin hperm h4 s4 HQ HS HLA HO HW hR hne hpop hR'
        rw [show (En ks j).key = kj from hkj.symm, show (En ks j).id = (j : Int) from rfl]
        have HKJ := Lib.hid hkj
        clear hkj
        go_upto_region 17 with fail
        obtain ⟨w5, hw5⟩ : ∃ w5, w4.alloc (.cells #[.int .i64 kj, .int .i64 j] 27) = w5 := ⟨_, rfl⟩
        have hb45 : Below w4.heap.size w4 w5 := by rw [← hw5]; exact (Below.refl _ _).alloc (Nat.le_refl _) _
        have X5 : PB w5 G w4.heap.size 27 #[.int .i64 kj, .int .i64 j] := by rw [← hw5]; exact HQ4.out.new _ _
        have HQ5 := Lib.hid (HQ4.out.below hb45)
        have S5 := HS4.out.below hb45
        have L5 := HL4.out.below hb45
        obtain ⟨gx, hgx⟩ : ∃ gx, w4.heap.size = gx := ⟨_, rfl⟩
        have hgsx : gs ≠ gx := by have := HS4.out.1.lt; omega
        have hglx : gl ≠ gx := by have := HL4.out.1.lt; omega
        rw [hw5]
        rw [hgx] at X5 ⊢
        have hb5 := hb4.trans (hb45.mono hs4)
        have hs5 := hb5.size
        obtain ⟨b, off, rfl, hbB, hkc⟩ := (HL.out.below hb5).int_at hmi
        rw [← HKJ.out] at hkc
        have hgsl := S5.1.lt
        have hgll := L5.1.lt
        have x0 := X5.1.cell 0
        have x1 := X5.1.cell 1
        have l0 := L5.1.cell 0
        have l1 := L5.1.cell 1
        have sj := S5.1.cell j
        rw [hseen] at sj
        simp at x0 x1 l0 l1
        have d1 : decide ((j : Int) < 0) = false := by simp
        have d2 : decide (i ≤ j) = false := by simp; omega
        have d3 : (kj != kj) = false := by simp
        have hj0 : (0 : Int) ≤ (j : Int) := by omega
        have hji : (j : Int) < (i : Int) := by omega
        have HX5 := Lib.hid X5
        have HS5 := Lib.hid S5
        have HL5 := Lib.hid L5
        clear hw5 hb45 X5 S5 L5 HQ4 HS4 HL4 hb4 hs4 hgx hseen hbr hsr
        clear wr w4
        go_cut [105] (fun a wx => a = .bool false ∧ ∃ nd, wx = w5.drewN nd)
        case first =>
          rcases Nat.eq_zero_or_pos k with h0 | h0
          · subst h0
            have d4 : decide ((0 : Int) < ((0 : Nat) : Int)) = false := rfl
            go_quiet (fail)
            go_wp2_with fail
            go_meet
            exact ⟨rfl, nq, rfl⟩
          · have d4 : decide (0 < k) = true := by simp [h0]
            have hlk' := hlk h0
            have d5 : decide (kj < lk) = false := by simp; omega
            by_cases he : kj = lk
            · have d6 : (kj == lk) = true := by rw [beq_iff_eq]; exact he
              have d7 : decide ((j : Int) < li) = false := by simp; omega
              clear hlk hlk' he
              go_quiet (fail)
              go_wp2_with fail
              go_meet
              exact ⟨rfl, nq, rfl⟩
            · have d6 : (kj == lk) = false := by rw [beq_eq_false_iff_ne]; exact he
              clear hlk hlk' he
              go_quiet (fail)
              go_wp2_with fail
              go_meet
              exact ⟨rfl, nq, rfl⟩
        case rest =>
        obtain ⟨rfl, nd, rfl⟩ := hcut
        go_upto_region 19 with fail
        obtain ⟨w6, hw6⟩ : ∃ w6, w5.drewN nd = w6 := ⟨_, rfl⟩
        have hb56 : Below w5.heap.size w5 w6 := by rw [← hw6]; exact below_drewN (Below.refl _ _) _
        rw [hw6]
        have X6 := HX5.out.below hb56
        have S6 := HS5.out.below hb56
        have L6 := HL5.out.below hb56
        have HQ6 := Lib.hid (HQ5.out.below hb56)
        have hb6 := hb5.trans (hb56.mono hs5)
        clear hw6 hb56 x0 x1 l0 l1 sj HX5 HS5 HL5 HQ5 hkc
        have x01 : w6.cell? ⟨gx, 0, none⟩ = some (.int .i64 kj) ∧ w6.cell? ⟨gx, 1, none⟩ = some (.int .i64 j) := ⟨X6.1.cell 0, X6.1.cell 1⟩
        have hsi : (seenC R i)[j]? = some (.bool (!(R.any fun e => e.h == j))) := seen_at hmi
        have sj := S6.1.cell j
        rw [hsi] at sj
        have sf := S6.1.frozen j
        have l0 := L6.1.cell 0
        have l1 := L6.1.cell 1
        have f0 := L6.1.frozen 0
        have f1 := L6.1.frozen 1
        simp at l0 l1
        have HE0 := Lib.hid (drew_cell2 x01)
        have HE1 := Lib.hid (drew_cell2 (sorts_far (j := j) (u := .bool true) x01 hgsx))
        have HE2 := Lib.hid (drew_cell2 (sorts_far (j := 1) (u := .int .i64 j) (sorts_far (j := 0) (u := .int .i64 kj) (sorts_far (j := j) (u := .bool true) x01 hgsx) hglx) hglx))
        have HEND := Lib.hid (sorts_end (j := j) (u := .bool true) (a := .int .i64 kj) (b := .int .i64 j) S6.1 L6.1 GG.out)
        have HSG := Lib.hid S6.2
        have HLG := Lib.hid L6.2
        have hs6 := hb6.size
        have hne1 := GG.out
        have hne2 : ¬ gl = gs := fun e => hne1 e.symm
        obtain ⟨x0, x1⟩ := x01
        clear X6 S6 L6 hsi
        go_region_held3 (fun w' => w'.cell? ⟨gx, 0, none⟩ = some (.int .i64 kj) ∧ w'.cell? ⟨gx, 1, none⟩ = some (.int .i64 j))
          (first | with_reducible exact HE0.out | with_reducible exact HE1.out | with_reducible exact HE2.out) (fail)
        obtain ⟨w7, hw7⟩ : ∃ w7, World.drew (((w6.setCell ⟨gs, j, none⟩ (.bool true)).setCell ⟨gl, 0, none⟩ (.int .i64 kj)).setCell ⟨gl, 1, none⟩ (.int .i64 j)) = w7 := ⟨_, rfl⟩
        have E7 := HEND.out
        rw [hw7] at E7 ⊢
        obtain ⟨S7, L7, T7⟩ := E7
        have HF7 : ∀ k, G k → ¬ (k = gs ∨ k = gl) := fun k hk h => by
          rcases h with h | h
          · exact HSG.out (h ▸ hk)
          · exact HLG.out (h ▸ hk)
        have HQ7 := Lib.hid (HQ6.out.far T7 HF7)
        rw [HPOP.out] at S7
        have HS7 := Lib.hid (show PB w7 G gs 4 (seenC R' i) from ⟨S7, HSG.out⟩)
        have HL7 := Lib.hid (show PB w7 G gl 27 #[.int .i64 kj, .int .i64 j] from ⟨L7, HLG.out⟩)
        have hgs2 := HGS.out
        have hb7 : Below w.heap.size w w7 := hb6.trans (T7.toBelow (fun k hk => by omega) hs6)
        clear hw7 S7 L7 T7 HF7 hb6 HE0 HE1 HE2 HEND sj sf l0 l1 f0 f1 x0 x1
        go_wp2_with fail
        go_roundw
        case rel => exact ⟨k + 1, by omega, by go_num, ⟨G, R', kj, j, HQ7, HR'.out, HW', HS7, HL7, Lib.hid (fun _ => hnew.out)⟩, hb7⟩
        case measure => simp [intOf]; omega
end Go.Proofs.Ytnechjedhpcffaa
