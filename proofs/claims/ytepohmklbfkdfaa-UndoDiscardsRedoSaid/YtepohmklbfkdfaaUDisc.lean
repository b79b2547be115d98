/- UndoDiscardsRedo returns true for every input within the form's reach. -/
import Derived.Test.YtepohmklbfkdfaaUTwo
namespace Go.Proofs.Ytepohmklbfkdfaa
open Go.RowKit

set_option maxRecDepth 100000 in
set_option maxHeartbeats 2000000 in
theorem lawDisc_any (s : ByteArray) (A : Option Addr) (n c : Nat) (l : List St) (a b : Int) (t : ByteArray) (w : World) (hl : Reads w w.heap.size 4 A n (sts l)) (hn : n ≤ maxLen) (hs : s.size ≤ reachBytes) (ht : ∀ t ∈ l, t.e.ins.size ≤ reachBytes) (hti : t.size ≤ reachBytes) :
    Calls Try.prog 7 #[.string s, .slice A n c, .agg #[.int .i64 a, .int .i64 b, .string t]] w fun e w' => e = .returned (.bool true) ∧ Below w.heap.size w w' := by
  have HLN := Lib.hid hl.len_sts
  have HT := Lib.hid ht
  have NE := tl_ne
  have EQ := tl_eq
  have EE := run_eql_ed
  have ES := Ed.eqb_self
  have B0 := Blk.new' w 31 #[.int .i64 a, .int .i64 b, .string t] rfl
  have hbx : Below w.heap.size w (w.alloc (.cells #[.int .i64 a, .int .i64 b, .string t] 31)) := (Below.refl _ _).alloc (Nat.le_refl _) _
  have hl0 := hl.below hbx
  have HL := Lib.hid hl0
  have WAIT := Lib.hid (show ∀ w', Below (w.heap.size + 1) (w.alloc (.cells #[.int .i64 a, .int .i64 b, .string t] 31)) w' → Below w.heap.size w w' from fun w' h => hbx.trans (h.mono (by omega)))
  clear hl ht hl0 hbx
  go_enter Try.func7, Try.ntmps7
  go_wp2_with fail
  obtain ⟨w0, hw0⟩ : ∃ w0, w.alloc (.cells #[.int .i64 a, .int .i64 b, .string t] 31) = w0 := ⟨_, rfl⟩
  have hN0 : w0.heap.size = w.heap.size + 1 := by rw [← hw0]; simp
  rw [hw0] at B0 HL WAIT ⊢
  have hN1 : w.heap.size + 1 ≤ w0.heap.size := by omega
  clear hw0 hN0
  refine (awake_any _).mono ?_
  rintro e w1 ⟨rfl, hb1⟩
  have hb1' := hb1.mono hN1
  have hs1 := hb1'.size
  have HL1 := Lib.hid (HL.out.below (hb1'.mono (by omega)))
  clear hb1
  go_wp2_with fail
  refine (few_any s A n c w.heap.size l _ HL1.out hn hs HT.out).mono ?_
  rintro e w2 ⟨bo, rfl, hok, hb2⟩
  have hbb2 : Below (w.heap.size + 1) w0 w2 := hb1'.trans (hb2.mono (by omega))
  have hs2 := hbb2.size
  have B2 := B0.below hbb2 (by omega)
  have k2 := B2.cell 2
  simp at k2
  clear hb2 HL1 hb1'
  cases bo with
  | false =>
    go_wp2_with fail
    go_ret
    exact ⟨rfl, WAIT.out _ hbb2⟩
  | true =>
  obtain ⟨q1, q2⟩ := hok rfl
  have hsz : s.size ≤ 20000 := by omega
  have HQ := Lib.hid q2
  by_cases htb : t.size ≤ 1000
  case neg =>
    have d1 : decide ((1000 : Int) < t.size) = true := by simp; omega
    have d2 : decide (1000 < t.size) = true := by simp; omega
    clear hok q2 hs hs1 hti
    go_wp2_with fail
    go_ret
    exact ⟨rfl, WAIT.out _ hbb2⟩
  have d1 : decide ((1000 : Int) < t.size) = false := by simp; omega
  have d2 : decide (1000 < t.size) = false := by simp; omega
  clear hok q2 hs hs1 hti
  go_wp2_with fail
  refine (new_any s _).mono ?_
  rintro e w3 ⟨rfl, rfl⟩
  go_wp2_with fail
  refine (new_any s _).mono ?_
  rintro e w3 ⟨rfl, rfl⟩
  have H3 := two_new s w2 (w.heap.size + 1) (by omega)
  have hb3 := (hbb2.alloc (show w.heap.size + 1 ≤ w2.heap.size by omega) (.cells #[.string s, .int .i64 0, .slice none 0 0, .slice none 0 0] 54)).alloc (show w.heap.size + 1 ≤ (w2.alloc _).heap.size by simp; omega) (.cells #[.string s, .int .i64 0, .slice none 0 0, .slice none 0 0] 54)
  go_wp2_with fail
  obtain ⟨g1, hg1⟩ : ∃ g, w2.heap.size = g := ⟨_, rfl⟩
  rw [hg1] at H3
  simp only [hg1]
  have HT3 := Lib.hid H3
  clear H3 hg1 hs2 k2 B2
  generalize (w2.alloc (.cells #[.string s, .int .i64 0, .slice none 0 0, .slice none 0 0] 54)).alloc (.cells #[.string s, .int .i64 0, .slice none 0 0, .slice none 0 0] 54) = w3 at *
  obtain ⟨g2, hg2⟩ : ∃ g, g1 + 1 = g := ⟨_, rfl⟩
  rw [hg2] at HT3
  simp only [hg2]
  clear hbb2 d1 d2 hg2
  go_loopw [9] (fun a wr => ∃ k : Nat, k ≤ n ∧ a = .int .i64 k ∧ Hid (Two wr (w.heap.size + 1) g1 (doN s l k).hs g2 (CH.new s).hs) ∧ Below (w.heap.size + 1) w0 wr) (fun a _ => n - (intOf a).toNat)
  case atStart => exact ⟨0, Nat.zero_le _, rfl, HT3.out, hb3⟩
  case round =>
    obtain ⟨k, hk, rfl, HH, hb⟩ := hrel
    have hsz4 := hb.size
    have hsz5 : w.heap.size + 1 ≤ wr.heap.size := by omega
    have hinv := doN_inv s l k
    by_cases hlt : k < n
    · obtain ⟨b', off, t', rfl, hbl, htk, h0, h1, h2, h3⟩ := (HL.out.below (hb.mono (by omega))).st_at hlt
      have hmem := sumSt_mem (List.mem_of_getElem? htk)
      have hins : t'.e.ins.size ≤ 1048576 := by have := HQ.out; omega
      have HSM := Lib.hid (hinv.small hsz (by omega))
      have HV := Lib.hid (hinv.ver (by omega))
      have hnext : doN s l (k + 1) = (doN s l k).doC t'.e := by
        show (doN s l k).doC (l[k]?.getD ⟨0, ed0⟩).e = _
        rw [htk]; rfl
      have HS := Lib.hid (show (doN s l (k + 1)).hs = doH (doN s l k).hs t'.e by rw [hnext]; exact hinv.ok.do_hs t'.e)
      obtain ⟨tk, tp, td, ti⟩ := t'
      simp only at h0 h1 h2 h3 hins HS
      clear hmem htk hnext hinv
      have m0 : (tk : Int) % 3 = ((tk % 3 : Nat) : Int) := by omega
      by_cases hk3 : tk % 3 = 0
      case neg =>
        have c1 : ((tk : Int) % 3 != 0) = true := by simp; omega
        have c2 : (tk % 3 != 0) = true := by simp; omega
        clear m0
        go_wp2_with fail
        go_ret
        exact ⟨rfl, WAIT.out _ hb⟩
      have c1 : ((tk : Int) % 3 != 0) = false := by simp; omega
      have c2 : (tk % 3 != 0) = false := by simp; omega
      clear m0 hk3
      obtain ⟨F1, f1, f2⟩ := HH.out.open1 hsz5
      have HF := Lib.hid f2
      clear f2
      go_wp2_with fail
      refine (do_any F1 g1 _ tp td ti _ f1 HSM.out hins HV.out).mono ?_
      rw [← HS.out]
      rintro e w5 ⟨rfl, hp⟩
      obtain ⟨q5, hb5⟩ := HF.out _ _ hp
      have HQ5 := Lib.hid q5
      have hbb5 := hb.trans hb5
      clear hp q5 hb5 f1
      go_wp2_with fail
      go_roundw
      case rel => exact ⟨k + 1, by omega, by go_num, HQ5, hbb5⟩
      case measure => simp [intOf]; omega
    · have hkn : k = n := by omega
      subst hkn
      have hfull := doN_full s l k
      obtain ⟨dd1, dd2⟩ := (doN s l k).depth hinv.ok
      obtain ⟨cE, hcE⟩ : ∃ c, doN s l k = c := ⟨_, rfl⟩
      rw [hcE] at hinv hfull dd1 dd2 HH
      have HCE := Lib.hid hcE
      have hdn : cE.d ≤ k := by have := hinv.E; omega
      obtain ⟨d, hd⟩ : ∃ d, cE.d = d := ⟨_, rfl⟩
      have HD := Lib.hid hd
      rw [hd] at dd1 hdn
      have dd3 : cE.hs.R.length = 0 := by rw [dd2]; omega
      have HDD := Lib.hid (show cE.hs.U.length = d ∧ cE.hs.R.length = 0 from ⟨dd1, dd3⟩)
      have HI := Lib.hid (show CInv s 30 cE ∧ cE.d = cE.E.length from ⟨hinv.mono (by omega), hfull⟩)
      obtain ⟨F1, f1, _⟩ := HH.out.open1 hsz5
      clear hcE hd dd1 dd2 dd3 hinv hfull
      go_wp2_with fail
      refine (depth_any g1 F1 cE.hs _ f1).mono ?_
      rw [HDD.out.1, HDD.out.2]
      rintro e w5 ⟨rfl, kd, rfl⟩
      have HH5 := Lib.hid (HH.out.drewN kd)
      have hb5 := below_drewN hb kd
      generalize wr.drewN kd = w5 at *
      clear hb hsz4 hsz5 HH f1
      go_wp2_with fail
      go_loopw [12] (fun a wr => ∃ (i : Nat) (c : CH), i ≤ 2 ∧ i ≤ d ∧ a = .int .i64 i ∧ Hid (CInv s (30 + i) c ∧ c.E = cE.E ∧ c.d + i = d) ∧ Hid (Two wr (w.heap.size + 1) g1 c.hs g2 (CH.new s).hs) ∧ Below (w.heap.size + 1) w0 wr) (fun a _ => 2 - (intOf a).toNat)
      case atStart => exact ⟨0, cE, by omega, Nat.zero_le _, rfl, ⟨HI.out.1, rfl, by rw [HD.out]; rfl⟩, HH5.out, hb5⟩
      case round =>
        obtain ⟨i, c1, hi2, hid, rfl, HC1, HH1, hb1⟩ := hrel
        have hsz1 := hb1.size
        have hsz2 : w.heap.size + 1 ≤ wr.heap.size := by omega
        obtain ⟨y1, y2, y3⟩ := HC1.out
        by_cases hlt1 : i < 2 ∧ i < d
        · obtain ⟨l1, l2⟩ := hlt1
          obtain ⟨z1, z2, z3⟩ := y1.ok.undo_at (k := d - i - 1) (by omega)
          have HC2 := Lib.hid (show CInv s (30 + (i + 1)) c1.undoC ∧ c1.undoC.E = cE.E ∧ c1.undoC.d + (i + 1) = d from ⟨y1.undo, z2.trans y2, by omega⟩)
          have HSM := Lib.hid (y1.small hsz (by omega))
          have HV := Lib.hid (y1.ver (by omega))
          have HS := Lib.hid y1.ok.undo_hs
          have t1 : decide ((i : Int) < 2) = true := by simp; omega
          have t1' : decide (i < 2) = true := by simp; omega
          have t2 : decide ((i : Int) < d) = true := by simp; omega
          have t2' : decide (i < d) = true := by simp; omega
          obtain ⟨F1, f1, f2⟩ := HH1.out.open1 hsz2
          have HF := Lib.hid f2
          clear y1 y2 y3 z1 z2 z3 f2
          go_wp2_with fail
          refine (undo_any F1 g1 c1.hs _ f1 HSM.out HV.out).mono ?_
          rw [← HS.out]
          rintro e w6 ⟨rfl, hp⟩
          obtain ⟨q6, hb6⟩ := HF.out _ _ hp
          have HQ6 := Lib.hid q6
          have hbb6 := hb1.trans hb6
          clear hp q6 hb6 f1 t1 t1' t2 t2'
          go_wp2_with fail
          go_roundw
          case rel => exact ⟨i + 1, _, by omega, by omega, by go_num, HC2, HQ6, hbb6⟩
          case measure => simp [intOf]; omega
        · have ht : (decide ((i : Int) < 2) = false ∧ decide (i < 2) = false) ∨ (decide ((i : Int) < 2) = true ∧ decide (i < 2) = true ∧ decide ((i : Int) < d) = false ∧ decide (i < d) = false) := by
            by_cases h : i < 2
            · right; exact ⟨by simp; omega, by simp; omega, by simp; omega, by simp; omega⟩
            · left; exact ⟨by simp; omega, by simp; omega⟩
          have HTT := Lib.hid ht
          obtain ⟨dd1, dd2⟩ := c1.depth y1.ok
          obtain ⟨kept, hkp⟩ : ∃ kept, c1.d = kept := ⟨_, rfl⟩
          rw [hkp] at dd1
          have HDD1 := Lib.hid (show c1.hs.U.length = kept from dd1)
          have HKP := Lib.hid hkp
          have hkd : kept ≤ d := by omega
          have HC2 := Lib.hid (show CInv s 40 c1 ∧ c1.E = cE.E from ⟨y1.mono (by omega), y2⟩)
          obtain ⟨F1, f1, _⟩ := HH1.out.open1 hsz2
          have HF1 := Lib.hid f1
          clear ht y1 y2 y3 hlt1 dd1 dd2 hkp f1 HC1
          rcases HTT.out with ⟨t1, t2⟩ | ⟨t1, t2, t3, t4⟩
          all_goals
            go_wp2_with fail
            refine (depth_any g1 F1 c1.hs _ HF1.out).mono ?_
            rw [HDD1.out]
            rintro e w7 ⟨rfl, kd2, rfl⟩
            have HH7 := Lib.hid (HH1.out.drewN kd2)
            have hb7 := below_drewN hb1 kd2
            generalize wr.drewN kd2 = w7 at *
            clear t1 t2
            go_wp2_with fail
            go_loopw [15, 16] (fun x a wr => ∃ i : Nat, i ≤ k ∧ a = .int .i64 i ∧ x = .int .i64 (doN s l i).d ∧ (doN s l i).d ≤ kept ∧ Hid (Two wr (w.heap.size + 1) g1 c1.hs g2 (doN s l i).hs) ∧ Below (w.heap.size + 1) w0 wr) (fun _ a _ => k - (intOf a).toNat)
            case atStart => exact ⟨0, Nat.zero_le _, rfl, rfl, Nat.zero_le _, HH7.out, hb7⟩
            case round =>
              obtain ⟨i3, hi3, rfl, rfl, hdk, HH3, hb3'⟩ := hrel
              have hszr := hb3'.size
              have hsz3 : w.heap.size + 1 ≤ wr.heap.size := by omega
              have hinv3 := doN_inv s l i3
              obtain ⟨D, hD⟩ : ∃ D, (doN s l i3).d = D := ⟨_, rfl⟩
              rw [hD] at hdk
              have HDi := Lib.hid hD
              by_cases hlt3 : i3 < k ∧ D < kept
              · obtain ⟨l1, l2⟩ := hlt3
                obtain ⟨b', off, t', rfl, hbl, htk, h0, h1, h2, h3⟩ := (HL.out.below (hb3'.mono (by omega))).st_at l1
                have hmem := sumSt_mem (List.mem_of_getElem? htk)
                have hins : t'.e.ins.size ≤ 1048576 := by have := HQ.out; omega
                have HSM := Lib.hid (hinv3.small hsz (by omega))
                have HV := Lib.hid (hinv3.ver (by omega))
                have hnext : doN s l (i3 + 1) = (doN s l i3).doC t'.e := by
                  show (doN s l i3).doC (l[i3]?.getD ⟨0, ed0⟩).e = _
                  rw [htk]; rfl
                have HS := Lib.hid (show (doN s l (i3 + 1)).hs = doH (doN s l i3).hs t'.e by rw [hnext]; exact hinv3.ok.do_hs t'.e)
                have hds : (doN s l (i3 + 1)).d = if doE (doN s l i3).hs t'.e = 0 then D + 1 else D := by
                  rw [hnext, ← hD]
                  split
                  · rename_i h; rw [CH.do_eq h]
                  · rename_i h; rw [CH.do_no h]
                obtain ⟨tk, tp, td, ti⟩ := t'
                simp only at h0 h1 h2 h3 hins HS hds
                obtain ⟨E, hE⟩ : ∃ E, doE (doN s l i3).hs ⟨tp, td, ti⟩ = E := ⟨_, rfl⟩
                rw [hE] at hds
                have HE := Lib.hid hE
                have HDS := Lib.hid hds
                obtain ⟨F2, f1, f2⟩ := HH3.out.open2 hsz3
                have HF := Lib.hid f2
                have t1 : decide ((i3 : Int) < k) = true := by simp; omega
                have t2 : decide (i3 < k) = true := by simp; omega
                have t5 : decide ((D : Int) < kept) = true := by simp; omega
                have t6 : decide (D < kept) = true := by simp; omega
                clear hmem htk hnext hinv3 hE hds f2 hD
                rw [HDi.out]
                by_cases hE0 : E = 0
                · subst hE0
                  go_wp2_with fail
                  refine (do_any F2 g2 _ tp td ti _ f1 HSM.out hins HV.out).mono ?_
                  rw [HE.out, ← HS.out]
                  rintro e w8 ⟨rfl, hp⟩
                  obtain ⟨q8, hb8⟩ := HF.out _ _ hp
                  have HQ8 := Lib.hid q8
                  have hbb8 := hb3'.trans hb8
                  have hv1 : IntKind.i64.wrap ((D : Int) + 1) = (D : Int) + 1 := IntWalk.i64_in _ (by omega)
                  clear hp q8 hb8 f1
                  go_wp2_with fail
                  go_roundw
                  case rel => exact ⟨i3 + 1, by omega, by go_num, by have := HDS.out; simp only [if_true] at this; rw [this]; go_num, by have := HDS.out; simp only [if_true] at this; omega, HQ8, hbb8⟩
                  case measure => simp [intOf]; omega
                · have hz1 : (E == 0) = false := by rw [beq_eq_false_iff_ne]; exact hE0
                  have HE0 := Lib.hid hE0
                  clear hE0
                  go_wp2_with fail
                  refine (do_any F2 g2 _ tp td ti _ f1 HSM.out hins HV.out).mono ?_
                  rw [HE.out, ← HS.out]
                  rintro e w8 ⟨rfl, hp⟩
                  obtain ⟨q8, hb8⟩ := HF.out _ _ hp
                  have HQ8 := Lib.hid q8
                  have hbb8 := hb3'.trans hb8
                  clear hp q8 hb8 f1
                  go_wp2_with fail
                  go_roundw
                  case rel => exact ⟨i3 + 1, by omega, by go_num, by have := HDS.out; rw [if_neg HE0.out] at this; rw [this], by have := HDS.out; rw [if_neg HE0.out] at this; omega, HQ8, hbb8⟩
                  case measure => simp [intOf]; omega
              · have hpre := doN_prefix s l i3 (k - i3)
                rw [show i3 + (k - i3) = k by omega, HCE.out] at hpre
                have hDk : D = kept := by
                  by_cases h : i3 < k
                  · omega
                  · have : i3 = k := by omega
                    subst this
                    rw [HCE.out, HD.out] at hD
                    omega
                have htext : c1.text = (doN s l i3).text := by
                  show tx c1.S (c1.E.take c1.d) = tx (doN s l i3).S ((doN s l i3).E.take (doN s l i3).d)
                  rw [HC2.out.1.S, hinv3.S, HC2.out.2, HKP.out, hpre.1, hD, hDk, List.take_take, Nat.min_self]
                have hdoT := doC_text HC2.out.1.ok hinv3.ok htext ⟨a, b, t⟩
                have hdoE := doE_text htext ⟨a, b, t⟩
                have hred := do_redo HC2.out.1.ok (e := ⟨a, b, t⟩)
                obtain ⟨E, hE⟩ : ∃ E, doE c1.hs ⟨a, b, t⟩ = E := ⟨_, rfl⟩
                rw [hE] at hdoE hred
                obtain ⟨T1, hT1⟩ : ∃ T, (c1.doC ⟨a, b, t⟩).text = T := ⟨_, rfl⟩
                rw [hT1] at hdoT
                obtain ⟨c3, hc3⟩ : ∃ c, c1.doC ⟨a, b, t⟩ = c := ⟨_, rfl⟩
                obtain ⟨c4, hc4⟩ : ∃ c, (doN s l i3).doC ⟨a, b, t⟩ = c := ⟨_, rfl⟩
                have HS3 := Lib.hid (show c3.hs = doH c1.hs ⟨a, b, t⟩ by rw [← hc3]; exact HC2.out.1.ok.do_hs _)
                have HS4 := Lib.hid (show c4.hs = doH (doN s l i3).hs ⟨a, b, t⟩ by rw [← hc4]; exact hinv3.ok.do_hs _)
                have HC3 := Lib.hid (show CInv s 41 c3 by rw [← hc3]; exact HC2.out.1.do_ _)
                rw [hc3] at hT1 hred
                rw [hc4] at hdoT
                have HE1 := Lib.hid hE
                have HE2 := Lib.hid hdoE.symm
                have HRD := Lib.hid hred
                have HT1 := Lib.hid (show c3.redoC.hs = redoH c3.hs from HC3.out.ok.redo_hs)
                have HTT1 := Lib.hid (show c3.hs.t = T1 from hT1)
                have HTT2 := Lib.hid (show c4.hs.t = T1 from hdoT.symm)
                have HSM1 := Lib.hid (HC2.out.1.small hsz (by omega))
                have HV1 := Lib.hid (HC2.out.1.ver (by omega))
                have HSM2 := Lib.hid (hinv3.small hsz (by omega))
                have HV2 := Lib.hid (hinv3.ver (by omega))
                have HSM3 := Lib.hid (HC3.out.small hsz (by omega))
                have HV3 := Lib.hid (HC3.out.ver (by omega))
                have ht : (decide ((i3 : Int) < k) = false ∧ decide (i3 < k) = false) ∨ (decide ((i3 : Int) < k) = true ∧ decide (i3 < k) = true ∧ decide ((D : Int) < kept) = false ∧ decide (D < kept) = false) := by
                  by_cases h : i3 < k
                  · right; exact ⟨by simp; omega, by simp; omega, by simp; omega, by simp; omega⟩
                  · left; exact ⟨by simp; omega, by simp; omega⟩
                have HX := Lib.hid ht
                have B5 := B0.below hb3' (by omega)
                have k0 := B5.cell 0
                have k1 := B5.cell 1
                have k2 := B5.cell 2
                simp at k0 k1 k2
                clear ht hlt3 hpre htext hdoT hdoE hred hE hT1 hc3 hc4 hinv3 hD
                rw [HDi.out]
                have EQ := tl_eq
                have HTZ := Lib.hid (show t.size ≤ 1048576 by omega)
                obtain ⟨F1, f1, f2⟩ := HH3.out.open1 hsz3
                have HFa := Lib.hid f2
                have HF1 := Lib.hid (show Hist wr.drew F1 g1 c1.hs from f1.drewN 1)
                have HB5 := Lib.hid B5
                clear f1 f2 B5
                rcases HX.out with ⟨t1, t2⟩ | ⟨t1, t2, t3, t4⟩
                all_goals
                  go_wp2_with fail
                  go_region_with (first
                    | (go_at_call 19; (with_reducible refine (do_any F1 g1 c1.hs a b t _ HF1.out HSM1.out HTZ.out HV1.out).mono ?_); rw [HE1.out, ← HS3.out]; rintro e w8 ⟨rfl, hp⟩; obtain ⟨q8, hb8⟩ := HFa.out _ _ (HPost.drew hp); have B8 := HB5.out.below hb8 (Nat.lt_succ_self _); have k5 := B8.cell 0; have k6 := B8.cell 1; have k7 := B8.cell 2; simp at k5 k6 k7; go_loud (have hz8 : w.heap.size + 1 ≤ w8.heap.size := Nat.le_trans hsz3 hb8.size; obtain ⟨F2, f3, f4⟩ := q8.open2 hz8; have HF3 := Lib.hid f3; have HF4 := Lib.hid f4; clear f3 f4 hp q8))
                    | (go_at_call 19; (with_reducible refine (do_any F2 g2 (doN s l i3).hs a b t _ HF3.out HSM2.out HTZ.out HV2.out).mono ?_); rw [HE2.out, ← HS4.out]; rintro e w9 ⟨rfl, hp⟩; obtain ⟨q9, hb9⟩ := HF4.out _ _ hp; have HQ9 := Lib.hid q9; clear hp q9))
                  all_goals
                    have hbb9 := (hb3'.trans hb8).trans hb9
                    have hz9 : w.heap.size + 1 ≤ w9.heap.size := Nat.le_trans hz8 hb9.size
                    obtain ⟨F5, f5, f6⟩ := HQ9.out.open1 hz9
                    have HF5 := Lib.hid f5
                    have HF6 := Lib.hid f6
                    clear f5 f6 k0 k1 k2 k5 k6 k7
                    by_cases hE0 : E = 0
                    · subst hE0
                      have hr := HRD.out rfl
                      have HR := Lib.hid hr
                      clear hr
                      go_wp2_with fail
                      refine (redo_any F5 g1 c3.hs _ HF5.out HSM3.out HV3.out).mono ?_
                      rw [HR.out.1, HR.out.2]
                      rintro e w10 ⟨rfl, hp⟩
                      obtain ⟨q10, hb10⟩ := HF6.out _ _ hp
                      have HQ10 := Lib.hid (q10.alloc (.cells #[.int .i64 (redoX c3.hs).pos, .int .i64 (redoX c3.hs).del, .string (redoX c3.hs).ins] 31))
                      have hbb10 := (hbb9.trans hb10).alloc (show w.heap.size + 1 ≤ w10.heap.size from Nat.le_trans hz9 hb10.size) (.cells #[.int .i64 (redoX c3.hs).pos, .int .i64 (redoX c3.hs).del, .string (redoX c3.hs).ins] 31)
                      clear hp q10
                      go_wp2_with fail
                      refine (text_any g1 c3.hs.t _ HQ10.out.t1).mono ?_
                      rw [HTT1.out]
                      rintro e w' ⟨rfl, rfl⟩
                      go_wp2_with fail
                      refine (text_any g2 c4.hs.t _ HQ10.out.t2).mono ?_
                      rw [HTT2.out]
                      rintro e w' ⟨rfl, rfl⟩
                      go_wp2_with fail
                      go_ret
                      exact ⟨rfl, WAIT.out _ hbb10⟩
                    · have hz1 : (E == 0) = false := by rw [beq_eq_false_iff_ne]; exact hE0
                      have hz2 : (E != 0) = true := by simp [hE0]
                      clear hE0
                      go_wp2_with fail
                      refine (redo_any F5 g1 c3.hs _ HF5.out HSM3.out HV3.out).mono ?_
                      obtain ⟨E2, hE2⟩ : ∃ E2, redoE c3.hs = E2 := ⟨_, rfl⟩
                      rw [hE2]
                      clear hE2
                      rintro e w10 ⟨rfl, hp⟩
                      obtain ⟨q10, hb10⟩ := HF6.out _ _ hp
                      have hbb10 := (hbb9.trans hb10).alloc (show w.heap.size + 1 ≤ w10.heap.size from Nat.le_trans hz9 hb10.size) (.cells #[.int .i64 (redoX c3.hs).pos, .int .i64 (redoX c3.hs).del, .string (redoX c3.hs).ins] 31)
                      clear hp q10
                      go_wp2_with fail
                      go_ret
                      exact ⟨rfl, WAIT.out _ hbb10⟩
end Go.Proofs.Ytepohmklbfkdfaa
