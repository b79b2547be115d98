/- UndoRestores returns true for every input within the form's reach. -/
import Derived.Test.YtepohmklbfkdfaaULaw
namespace Go.Proofs.Ytepohmklbfkdfaa
open Go.RowKit

theorem CH.do_eq {c : CH} {e : Ed} (h0 : doE c.hs e = 0) : c.doC e = ⟨c.S, c.E.take c.d ++ [e], c.d + 1, c.v + 1⟩ := by unfold CH.doC; rw [if_pos h0]
theorem CH.do_no {c : CH} {e : Ed} (h0 : doE c.hs e ≠ 0) : c.doC e = c := by unfold CH.doC; rw [if_neg h0]
theorem CH.Ok.do_at {c : CH} (h : c.Ok) (e : Ed) : (c.E.take c.d ++ [e])[c.d]? = some e ∧ (c.E.take c.d ++ [e]).take c.d = c.E.take c.d ∧ (c.E.take c.d ++ [e]).length = c.d + 1 := by
  have hl : (c.E.take c.d).length = c.d := by rw [List.length_take]; have := h.d; omega
  refine ⟨?_, ?_, by simp [hl]⟩
  · rw [List.getElem?_append_right (by omega), hl]; simp
  · rw [List.take_append_of_le_length (by omega), List.take_of_length_le (by omega)]
/-- An edit, undone, done again. -/
theorem CH.Ok.do_undo {c : CH} (h : c.Ok) {e : Ed} (h0 : doE c.hs e = 0) :
    undoE (c.doC e).hs = 0 ∧ (c.doC e).undoC.text = c.text ∧ redoE (c.doC e).undoC.hs = 0 ∧ redoX (c.doC e).undoC.hs = e ∧ (c.doC e).undoC.redoC.text = (c.doC e).text := by
  have ho := h.do_ok e
  have hu := ho.undo_ok
  have he := CH.do_eq h0
  obtain ⟨a1, a2, a3⟩ := h.do_at e
  have hd : (c.doC e).d = c.d + 1 := by rw [he]
  obtain ⟨x, x1, _, x2, _, _, x3, _, _⟩ := ho.undo_some hd
  have hE : (c.doC e).E = c.E.take c.d ++ [e] := by rw [he]
  have hS : (c.doC e).S = c.S := by rw [he]
  have ht : (c.doC e).undoC.text = c.text := by
    rw [x3]
    show tx (c.doC e).S ((c.doC e).E.take c.d) = _
    rw [hE, hS, a2]
    rfl
  have hlt : (c.doC e).undoC.d < (c.doC e).undoC.E.length := by
    rw [x3]
    show c.d < (c.doC e).E.length
    rw [hE, a3]
    omega
  obtain ⟨y, y1, _, y2, y3, _, y4, _⟩ := hu.redo_some hlt
  have hy : y = e := by
    have : (c.doC e).E[c.d]? = some y := by rw [x3] at y1; exact y1
    rw [hE, a1] at this
    injection this with this
    exact this.symm
  refine ⟨x2, ht, y2, by rw [y3, hy], ?_⟩
  rw [y4, x3]
  show tx (c.doC e).S ((c.doC e).E.take (c.d + 1)) = tx (c.doC e).S ((c.doC e).E.take (c.doC e).d)
  rw [hd]

set_option maxRecDepth 100000 in
set_option maxHeartbeats 2000000 in
theorem lawRest_any (s : ByteArray) (A : Option Addr) (n c : Nat) (l : List St) (a b : Int) (t : ByteArray) (w : World) (hl : Reads w w.heap.size 4 A n (sts l)) (hn : n ≤ maxLen) (hs : s.size ≤ reachBytes) (ht : ∀ t ∈ l, t.e.ins.size ≤ reachBytes) (hti : t.size ≤ reachBytes) :
    Calls Try.prog 5 #[.string s, .slice A n c, .agg #[.int .i64 a, .int .i64 b, .string t]] w fun e w' => e = .returned (.bool true) ∧ Below w.heap.size w w' := by
  have HLN := Lib.hid hl.len_sts
  have HT := Lib.hid ht
  have NE := tl_ne
  have EQ := tl_eq
  have EE := run_eql_ed
  have ES := Ed.eqb_self
  have B0 := Blk.new' w 31 #[.int .i64 a, .int .i64 b, .string t] rfl
  have hbx : Below w.heap.size w (w.alloc (.cells #[.int .i64 a, .int .i64 b, .string t] 31)) := (Below.refl _ _).alloc (Nat.le_refl _) _
  have hl0 := hl.below hbx
  have HL := Lib.hid hl0
  have WAIT := Lib.hid (show ∀ w', Below (w.heap.size + 1) (w.alloc (.cells #[.int .i64 a, .int .i64 b, .string t] 31)) w' → Below w.heap.size w w' from fun w' h => hbx.trans (h.mono (by omega)))
  clear hl ht hl0 hbx
  go_enter Try.func5, Try.ntmps5
  go_wp2_with fail
  obtain ⟨w0, hw0⟩ : ∃ w0, w.alloc (.cells #[.int .i64 a, .int .i64 b, .string t] 31) = w0 := ⟨_, rfl⟩
  have hN0 : w0.heap.size = w.heap.size + 1 := by rw [← hw0]; simp
  rw [hw0] at B0 HL WAIT ⊢
  have hN1 : w.heap.size + 1 ≤ w0.heap.size := by omega
  clear hw0 hN0
  refine (awake_any _).mono ?_
  rintro e w1 ⟨rfl, hb1⟩
  have hb1' := hb1.mono hN1
  have hs1 := hb1'.size
  have HL1 := Lib.hid (HL.out.below (hb1'.mono (by omega)))
  clear hb1
  go_wp2_with fail
  refine (few_any s A n c w.heap.size l _ HL1.out hn hs HT.out).mono ?_
  rintro e w2 ⟨bo, rfl, hok, hb2⟩
  have hbb2 : Below (w.heap.size + 1) w0 w2 := hb1'.trans (hb2.mono (by omega))
  have hs2 := hbb2.size
  have B2 := B0.below hbb2 (by omega)
  have k2 := B2.cell 2
  simp at k2
  clear hb2 HL1 hb1'
  cases bo with
  | false =>
    go_wp2_with fail
    go_ret
    exact ⟨rfl, WAIT.out _ hbb2⟩
  | true =>
  obtain ⟨q1, q2⟩ := hok rfl
  have hsz : s.size ≤ 20000 := by omega
  have HQ := Lib.hid q2
  by_cases htb : t.size ≤ 1000
  case neg =>
    have d1 : decide ((1000 : Int) < t.size) = true := by simp; omega
    have d2 : decide (1000 < t.size) = true := by simp; omega
    clear hok q2 hs hs1 hti
    go_wp2_with fail
    go_ret
    exact ⟨rfl, WAIT.out _ hbb2⟩
  have d1 : decide ((1000 : Int) < t.size) = false := by simp; omega
  have d2 : decide (1000 < t.size) = false := by simp; omega
  clear hok q2 hs hs1 hti
  go_wp2_with fail
  refine (new_any s _).mono ?_
  rintro e w3 ⟨rfl, rfl⟩
  have H3 := new_hist s w2 (fun k => w.heap.size + 1 ≤ k) (by omega)
  have hb3 := hbb2.alloc (show w.heap.size + 1 ≤ w2.heap.size by omega) (.cells #[.string s, .int .i64 0, .slice none 0 0, .slice none 0 0] 54)
  obtain ⟨g, hg⟩ : ∃ g, w2.heap.size = g := ⟨_, rfl⟩
  rw [hg] at H3 ⊢
  have HH3 := Lib.hid H3
  clear H3 hg hs2 k2 B2
  generalize w2.alloc (.cells #[.string s, .int .i64 0, .slice none 0 0, .slice none 0 0] 54) = w3 at *
  clear hbb2 d1 d2
  go_wp2_with fail
  go_loopw [8] (fun a wr => ∃ (k : Nat) (c : CH), k ≤ n ∧ a = .int .i64 k ∧ Hid (CInv s k c) ∧ Hid (Hist wr (fun k => w.heap.size + 1 ≤ k) g c.hs) ∧ Below (w.heap.size + 1) w0 wr) (fun a _ => n - (intOf a).toNat)
  case atStart => exact ⟨0, CH.new s, Nat.zero_le _, rfl, CInv.new s, HH3.out, hb3⟩
  case round =>
    obtain ⟨k, ch, hk, rfl, HC, HH, hb⟩ := hrel
    have hsz4 := hb.size
    have hsz5 : w.heap.size + 1 ≤ wr.heap.size := by omega
    by_cases hlt : k < n
    · obtain ⟨b', off, t', rfl, hbl, htk, h0, h1, h2, h3⟩ := (HL.out.below (hb.mono (by omega))).st_at hlt
      have hmem := sumSt_mem (List.mem_of_getElem? htk)
      have hins : t'.e.ins.size ≤ 1048576 := by have := HQ.out; omega
      have HSM := Lib.hid (HC.out.small hsz (by omega))
      have HV := Lib.hid (HC.out.ver (by omega))
      have HC2 := Lib.hid (HC.out.step t')
      have HS := Lib.hid (HC.out.ok.step_hs t')
      obtain ⟨tk, tp, td, ti⟩ := t'
      simp only at h0 h1 h2 h3 hins
      clear hmem htk
      go_wp2_with fail
      refine (run_any (fun k => w.heap.size + 1 ≤ k) g ch.hs tk tp td ti _ HH.out HSM.out hins HV.out).mono ?_
      rw [← HS.out]
      rintro e w5 ⟨rfl, hp⟩
      obtain ⟨H5, hb5⟩ := hp.base hsz5
      have hbb5 := hb.trans hb5
      have HH5 := Lib.hid H5
      clear H5 hp hb5
      go_wp2_with fail
      go_roundw
      case rel => exact ⟨k + 1, _, by omega, by go_num, HC2, HH5, hbb5⟩
      case measure => simp [intOf]; omega
    · obtain ⟨T1, hT1⟩ : ∃ T, ch.hs.t = T := ⟨_, rfl⟩
      have HT1 := Lib.hid hT1
      have HSM := Lib.hid (HC.out.small hsz (by omega))
      have HV := Lib.hid (HC.out.ver (by omega))
      have HDO := Lib.hid (HC.out.ok.do_hs ⟨a, b, t⟩)
      have B3 := B0.below hb (by omega)
      have k0 := B3.cell 0
      have k1 := B3.cell 1
      have k2 := B3.cell 2
      simp at k0 k1 k2
      clear hT1
      go_wp2_with fail
      refine (text_any g ch.hs.t _ HH.out.text).mono ?_
      rw [HT1.out]
      rintro e w' ⟨rfl, rfl⟩
      go_wp2_with fail
      refine (do_any (fun k => w.heap.size + 1 ≤ k) g ch.hs a b t _ HH.out HSM.out (by omega) HV.out).mono ?_
      obtain ⟨E, hE⟩ : ∃ E, doE ch.hs ⟨a, b, t⟩ = E := ⟨_, rfl⟩
      rw [hE, ← HDO.out]
      rintro e w5 ⟨rfl, hp⟩
      obtain ⟨H5, hb5⟩ := hp.base hsz5
      have hbb5 := hb.trans hb5
      have hz5 : w.heap.size + 1 ≤ w5.heap.size := Nat.le_trans hsz5 hb5.size
      by_cases hE0 : E = 0
      · subst hE0
        obtain ⟨u1, u2, u3, u4, u5⟩ := HC.out.ok.do_undo hE
        have HC1 := Lib.hid (HC.out.do_ ⟨a, b, t⟩)
        have HC2 := Lib.hid (HC1.out.undo)
        have HC3 := Lib.hid (HC2.out.redo)
        have HS2 := Lib.hid (HC1.out.ok.undo_hs)
        have HS3 := Lib.hid (HC2.out.ok.redo_hs)
        obtain ⟨c1, hc1⟩ : ∃ c1, ch.doC ⟨a, b, t⟩ = c1 := ⟨_, rfl⟩
        rw [hc1] at u1 u2 u3 u4 u5 HC1 HC2 HC3 HS2 HS3 H5
        have HU := Lib.hid (show undoE c1.hs = 0 ∧ c1.undoC.hs.t = T1 ∧ redoE c1.undoC.hs = 0 ∧ redoX c1.undoC.hs = ⟨a, b, t⟩ ∧ c1.undoC.redoC.hs.t = c1.hs.t from ⟨u1, u2.trans HT1.out, u3, u4, u5⟩)
        have HH5 := Lib.hid H5
        have HSM1 := Lib.hid (HC1.out.small hsz (by omega))
        have HV1 := Lib.hid (HC1.out.ver (by omega))
        have HSM2 := Lib.hid (HC2.out.small hsz (by omega))
        have HV2 := Lib.hid (HC2.out.ver (by omega))
        clear H5 hp hb5 u1 u2 u3 u4 u5 hc1 hE
        clear k0 k1 k2
        go_wp2_with fail
        refine (text_any g c1.hs.t _ HH5.out.text).mono ?_
        obtain ⟨T2, hT2⟩ : ∃ T, c1.hs.t = T := ⟨_, rfl⟩
        rw [hT2] at HU ⊢
        have HT2 := Lib.hid hT2
        clear hT2
        rintro e w' ⟨rfl, rfl⟩
        go_wp2_with fail
        refine (undo_any (fun k => w.heap.size + 1 ≤ k) g c1.hs _ HH5.out HSM1.out HV1.out).mono ?_
        rw [HU.out.1, ← HS2.out]
        rintro e w6 ⟨rfl, hp⟩
        obtain ⟨H6, hb6⟩ := hp.base hz5
        have hz6 : w.heap.size + 1 ≤ w6.heap.size := Nat.le_trans hz5 hb6.size
        have HH6 := Lib.hid (H6.alloc (.cells #[.int .i64 (undoX c1.hs).pos, .int .i64 (undoX c1.hs).del, .string (undoX c1.hs).ins] 31))
        have hbb6 := (hbb5.trans hb6).alloc hz6 (.cells #[.int .i64 (undoX c1.hs).pos, .int .i64 (undoX c1.hs).del, .string (undoX c1.hs).ins] 31)
        clear H6 hp hb6
        go_wp2_with fail
        refine (text_any g c1.undoC.hs.t _ HH6.out.text).mono ?_
        rw [HU.out.2.1]
        rintro e w' ⟨rfl, rfl⟩
        go_wp2_with fail
        refine (redo_any (fun k => w.heap.size + 1 ≤ k) g c1.undoC.hs _ HH6.out HSM2.out HV2.out).mono ?_
        rw [HU.out.2.2.1, HU.out.2.2.2.1, ← HS3.out]
        rintro e w7 ⟨rfl, hp⟩
        obtain ⟨H7, hb7⟩ := hp.base (by simp; omega)
        have hs7 := hb7.size
        simp only [World.size_alloc] at hs7
        have hbb7 := hbb6.trans hb7
        have B7 := (B0.below hbb7 (by omega)).alloc (.cells #[.int .i64 a, .int .i64 b, .string t] 31)
        have Q7 := Blk.new' w7 31 #[.int .i64 a, .int .i64 b, .string t] rfl
        have HH7 := Lib.hid (H7.alloc (.cells #[.int .i64 a, .int .i64 b, .string t] 31))
        have hbb8 := hbb7.alloc (show w.heap.size + 1 ≤ w7.heap.size by omega) (.cells #[.int .i64 a, .int .i64 b, .string t] 31)
        have k0 := B7.cell 0
        have k1 := B7.cell 1
        have k2 := B7.cell 2
        have g0 := Q7.cell 0
        have g1 := Q7.cell 1
        have g2 := Q7.cell 2
        simp at k0 k1 k2 g0 g1 g2
        clear H7 hp hb7 hbb7
        go_wp2_with fail
        refine (text_any g c1.undoC.redoC.hs.t _ HH7.out.text).mono ?_
        rw [HU.out.2.2.2.2]
        rintro e w' ⟨rfl, rfl⟩
        go_wp2_with fail
        go_ret
        exact ⟨rfl, WAIT.out _ hbb8⟩
      · have hz1 : (E != 0) = true := by simp [hE0]
        have hcc := CH.do_no (c := ch) (e := ⟨a, b, t⟩) (by rw [hE]; exact hE0)
        rw [hcc] at H5
        have HH5 := Lib.hid H5
        clear H5 hp hb5 hcc hE hE0 k0 k1 k2
        go_wp2_with fail
        refine (text_any g ch.hs.t _ HH5.out.text).mono ?_
        rw [HT1.out]
        rintro e w' ⟨rfl, rfl⟩
        go_wp2_with fail
        go_ret
        exact ⟨rfl, WAIT.out _ hbb5⟩
end Go.Proofs.Ytepohmklbfkdfaa
