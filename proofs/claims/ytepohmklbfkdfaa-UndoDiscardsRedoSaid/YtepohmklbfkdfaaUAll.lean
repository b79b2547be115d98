/- UndoAll returns true for every input within the form's reach. -/
import Derived.Test.YtepohmklbfkdfaaULaw
namespace Go.Proofs.Ytepohmklbfkdfaa
open Go.RowKit

theorem CH.Ok.undo_at {c : CH} (h : c.Ok) {k : Nat} (hk : c.d = k + 1) : undoE c.hs = 0 ∧ c.undoC.E = c.E ∧ c.undoC.d = k := by
  obtain ⟨_, _, _, h1, _, _, h2, _⟩ := h.undo_some hk
  exact ⟨h1, by rw [h2], by rw [h2]⟩
theorem CH.Ok.redo_at {c : CH} (h : c.Ok) (hk : c.d < c.E.length) : redoE c.hs = 0 ∧ c.redoC.E = c.E ∧ c.redoC.d = c.d + 1 := by
  obtain ⟨_, _, _, h1, _, _, h2, _⟩ := h.redo_some hk
  exact ⟨h1, by rw [h2], by rw [h2]⟩

set_option maxRecDepth 100000 in
set_option maxHeartbeats 2000000 in
theorem lawAll_any (s : ByteArray) (A : Option Addr) (n c : Nat) (l : List St) (w : World) (hl : Reads w w.heap.size 4 A n (sts l)) (hn : n ≤ maxLen) (hs : s.size ≤ reachBytes) (ht : ∀ t ∈ l, t.e.ins.size ≤ reachBytes) :
    Calls Try.prog 6 #[.string s, .slice A n c] w fun e w' => e = .returned (.bool true) ∧ Below w.heap.size w w' := by
  have HL := Lib.hid hl
  have HLN := Lib.hid hl.len_sts
  have HT := Lib.hid ht
  have NE := tl_ne
  clear hl ht
  go_enter Try.func6, Try.ntmps6
  go_wp2_with fail
  refine (awake_any _).mono ?_
  rintro e w1 ⟨rfl, hb1⟩
  have hs1 := hb1.size
  have HL1 := Lib.hid (HL.out.below hb1)
  go_wp2_with fail
  refine (few_any s A n c w.heap.size l _ HL1.out hn hs HT.out).mono ?_
  rintro e w2 ⟨bo, rfl, hok, hb2⟩
  have hbb2 : Below w.heap.size w w2 := hb1.trans (hb2.mono hs1)
  have hs2 := hbb2.size
  clear hb2 HL1 hb1
  cases bo with
  | false =>
    go_wp2_with fail
    go_ret
    exact ⟨rfl, hbb2⟩
  | true =>
  obtain ⟨q1, q2⟩ := hok rfl
  have hsz : s.size ≤ 20000 := by omega
  have HQ := Lib.hid q2
  clear hok q2 hs hs1
  go_wp2_with fail
  refine (new_any s _).mono ?_
  rintro e w3 ⟨rfl, rfl⟩
  have H3 := new_hist s w2 (fun k => w.heap.size ≤ k) hs2
  have hb3 := hbb2.alloc hs2 (.cells #[.string s, .int .i64 0, .slice none 0 0, .slice none 0 0] 54)
  obtain ⟨g, hg⟩ : ∃ g, w2.heap.size = g := ⟨_, rfl⟩
  rw [hg] at H3 ⊢
  have HH3 := Lib.hid H3
  clear H3 hg hs2
  generalize w2.alloc (.cells #[.string s, .int .i64 0, .slice none 0 0, .slice none 0 0] 54) = w3 at *
  clear hbb2
  go_wp2_with fail
  go_loopw [6] (fun a wr => ∃ (k : Nat) (c : CH), k ≤ n ∧ a = .int .i64 k ∧ Hid (CInv s k c) ∧ Hid (Hist wr (fun k => w.heap.size ≤ k) g c.hs) ∧ Below w.heap.size w wr) (fun a _ => n - (intOf a).toNat)
  case atStart => exact ⟨0, CH.new s, Nat.zero_le _, rfl, CInv.new s, HH3.out, hb3⟩
  case round =>
    obtain ⟨k, ch, hk, rfl, HC, HH, hb⟩ := hrel
    have hsz4 := hb.size
    by_cases hlt : k < n
    · obtain ⟨b, off, t, rfl, hbl, htk, h0, h1, h2, h3⟩ := (HL.out.below hb).st_at hlt
      have hmem := sumSt_mem (List.mem_of_getElem? htk)
      have hins : t.e.ins.size ≤ 1048576 := by have := HQ.out; omega
      have HSM := Lib.hid (HC.out.small hsz (by omega))
      have HV := Lib.hid (HC.out.ver (by omega))
      have HC2 := Lib.hid (HC.out.step t)
      have HS := Lib.hid (HC.out.ok.step_hs t)
      obtain ⟨tk, tp, td, ti⟩ := t
      simp only at h0 h1 h2 h3 hins
      clear hmem htk
      go_wp2_with fail
      refine (run_any (fun k => w.heap.size ≤ k) g ch.hs tk tp td ti _ HH.out HSM.out hins HV.out).mono ?_
      rw [← HS.out]
      rintro e w5 ⟨rfl, hp⟩
      obtain ⟨H5, hb5⟩ := hp.base hsz4
      have hbb5 := hb.trans hb5
      have HH5 := Lib.hid H5
      clear H5 hp hb5
      go_wp2_with fail
      go_roundw
      case rel => exact ⟨k + 1, _, by omega, by go_num, HC2, HH5, hbb5⟩
      case measure => simp [intOf]; omega
    · obtain ⟨T1, hT1⟩ : ∃ T, ch.hs.t = T := ⟨_, rfl⟩
      have HT1 := Lib.hid hT1
      obtain ⟨dd1, dd2⟩ := ch.depth HC.out.ok
      have hdE := HC.out.ok.d
      have hEn := HC.out.E
      obtain ⟨d, hd⟩ : ∃ d, ch.d = d := ⟨_, rfl⟩
      obtain ⟨m, hm⟩ : ∃ m, ch.E.length - ch.d = m := ⟨_, rfl⟩
      obtain ⟨EE, hEE⟩ : ∃ EE, ch.E = EE := ⟨_, rfl⟩
      have hmn : m ≤ n := by omega
      have hdn : d ≤ n := by omega
      rw [hm] at dd2
      rw [hd] at dd1
      have hdl : d ≤ EE.length := by rw [← hEE]; omega
      have HDD := Lib.hid (show ch.hs.U.length = d ∧ ch.hs.R.length = m from ⟨dd1, dd2⟩)
      have HD := Lib.hid (show ch.d = d ∧ ch.E = EE from ⟨hd, hEE⟩)
      have t1 : decide ((n : Int) < d) = false := by simp; omega
      have t2 : decide (n < d) = false := by simp; omega
      have t3 : decide ((n : Int) < m) = false := by simp; omega
      have t4 : decide (n < m) = false := by simp; omega
      have hkn : k ≤ 30 := by omega
      have HC0 := Lib.hid (HC.out.mono hkn)
      clear hT1 dd1 dd2 hdE hEn hd hm hEE HC
      go_wp2_with fail
      refine (text_any g ch.hs.t _ HH.out.text).mono ?_
      rw [HT1.out]
      rintro e w' ⟨rfl, rfl⟩
      go_wp2_with fail
      refine (depth_any g _ ch.hs _ HH.out).mono ?_
      rw [HDD.out.1, HDD.out.2]
      rintro e w5 ⟨rfl, kd, rfl⟩
      have HH5 := Lib.hid (HH.out.drewN kd)
      have hb5 := below_drewN hb kd
      generalize wr.drewN kd = w5 at *
      clear hb hsz4 HH
      go_wp2_with fail
      go_loopw [10] (fun a wr => ∃ (i : Nat) (c : CH), i ≤ d ∧ a = .int .i64 i ∧ Hid (CInv s (30 + i) c ∧ c.E = EE ∧ c.d + i = d) ∧ Hid (Hist wr (fun k => w.heap.size ≤ k) g c.hs) ∧ Below w.heap.size w wr) (fun a _ => d - (intOf a).toNat)
      case atStart => exact ⟨0, ch, Nat.zero_le _, rfl, ⟨HC0.out, HD.out.2, by rw [HD.out.1]; rfl⟩, HH5.out, hb5⟩
      case round =>
        obtain ⟨i, c1, hi, rfl, HC1, HH1, hb1⟩ := hrel
        have hsz1 := hb1.size
        by_cases hlt1 : i < d
        · obtain ⟨y1, y2, y3⟩ := HC1.out
          obtain ⟨z1, z2, z3⟩ := y1.ok.undo_at (k := d - i - 1) (by omega)
          have HC2 := Lib.hid (show CInv s (30 + (i + 1)) c1.undoC ∧ c1.undoC.E = EE ∧ c1.undoC.d + (i + 1) = d from ⟨y1.undo, z2.trans y2, by omega⟩)
          have HSM := Lib.hid (y1.small hsz (by omega))
          have HV := Lib.hid (y1.ver (by omega))
          have HS := Lib.hid y1.ok.undo_hs
          have HZ := Lib.hid z1
          clear y1 y2 y3 z1 z2 z3
          go_wp2_with fail
          refine (undo_any (fun k => w.heap.size ≤ k) g c1.hs _ HH1.out HSM.out HV.out).mono ?_
          rw [HZ.out, ← HS.out]
          rintro e w6 ⟨rfl, hp⟩
          obtain ⟨H6, hb6⟩ := hp.base hsz1
          have hbb6 := hb1.trans hb6
          have HH6 := Lib.hid (H6.alloc (.cells #[.int .i64 (undoX c1.hs).pos, .int .i64 (undoX c1.hs).del, .string (undoX c1.hs).ins] 31))
          have hbb7 := hbb6.alloc hbb6.size (.cells #[.int .i64 (undoX c1.hs).pos, .int .i64 (undoX c1.hs).del, .string (undoX c1.hs).ins] 31)
          clear H6 hp hb6 hbb6
          go_wp2_with fail
          go_roundw
          case rel => exact ⟨i + 1, _, by omega, by go_num, HC2, HH6, hbb7⟩
          case measure => simp [intOf]; omega
        · obtain ⟨y1, y2, y3⟩ := HC1.out
          have hc0 : c1.d = 0 := by omega
          obtain ⟨z1, z2, z3, z4⟩ := CH.undo_none hc0
          have zt : c1.hs.t = s := by
            show tx c1.S (c1.E.take c1.d) = s
            rw [hc0, y1.S]
            rfl
          have HC2 := Lib.hid (show CInv s (30 + d + 0) c1 ∧ c1.E = EE ∧ c1.d = 0 from ⟨y1.mono (by omega), y2, hc0⟩)
          have HSM := Lib.hid (y1.small hsz (by omega))
          have HV := Lib.hid (y1.ver (by omega))
          have HZ := Lib.hid (show undoE c1.hs = 15 ∧ undoX c1.hs = ed0 ∧ undoH c1.hs = c1.hs from ⟨z1, z2, z3⟩)
          have HZT := Lib.hid zt
          have hE0 : (ed0 : Ed) = ⟨0, 0, ⟨#[]⟩⟩ := rfl
          have HE0 := Lib.hid hE0
          clear y1 y2 y3 z1 z2 z3 z4 zt hc0 hE0
          go_wp2_with fail
          refine (undo_any (fun k => w.heap.size ≤ k) g c1.hs _ HH1.out HSM.out HV.out).mono ?_
          rw [HZ.out.1, HZ.out.2.1, HZ.out.2.2, HE0.out]
          rintro e w6 ⟨rfl, hp⟩
          obtain ⟨H6, hb6⟩ := hp.base hsz1
          have hbb6 := hb1.trans hb6
          have HH6 := Lib.hid (H6.alloc (.cells #[.int .i64 0, .int .i64 0, .string ⟨#[]⟩] 31))
          have hbb7 := hbb6.alloc hbb6.size (.cells #[.int .i64 0, .int .i64 0, .string ⟨#[]⟩] 31)
          clear H6 hp hb6 hbb6
          go_wp2_with fail
          refine (text_any g c1.hs.t _ HH6.out.text).mono ?_
          rw [HZT.out]
          rintro e w' ⟨rfl, rfl⟩
          go_wp2_with fail
          generalize w6.alloc (.cells #[.int .i64 0, .int .i64 0, .string ⟨#[]⟩] 31) = w7 at *
          go_loopw [15] (fun a wr => ∃ (i : Nat) (c : CH), i ≤ d ∧ a = .int .i64 i ∧ Hid (CInv s (30 + d + i) c ∧ c.E = EE ∧ c.d = i) ∧ Hid (Hist wr (fun k => w.heap.size ≤ k) g c.hs) ∧ Below w.heap.size w wr) (fun a _ => d - (intOf a).toNat)
          case atStart => exact ⟨0, c1, Nat.zero_le _, rfl, HC2.out, HH6.out, hbb7⟩
          case round =>
            obtain ⟨i2, c2, hi2, rfl, HC3, HH3', hb3'⟩ := hrel
            have hsz3 := hb3'.size
            obtain ⟨y1, y2, y3⟩ := HC3.out
            by_cases hlt3 : i2 < d
            · obtain ⟨z1, z2, z3⟩ := y1.ok.redo_at (by rw [y2, y3]; omega)
              have HC4 := Lib.hid (show CInv s (30 + d + (i2 + 1)) c2.redoC ∧ c2.redoC.E = EE ∧ c2.redoC.d = i2 + 1 from ⟨y1.redo, z2.trans y2, by omega⟩)
              have HSM3 := Lib.hid (y1.small hsz (by omega))
              have HV3 := Lib.hid (y1.ver (by omega))
              have HS3 := Lib.hid y1.ok.redo_hs
              have HZ3 := Lib.hid z1
              clear y1 y2 y3 z1 z2 z3
              go_wp2_with fail
              refine (redo_any (fun k => w.heap.size ≤ k) g c2.hs _ HH3'.out HSM3.out HV3.out).mono ?_
              rw [HZ3.out, ← HS3.out]
              rintro e w8 ⟨rfl, hp⟩
              obtain ⟨H8, hb8⟩ := hp.base hsz3
              have hbb8 := hb3'.trans hb8
              have HH8 := Lib.hid (H8.alloc (.cells #[.int .i64 (redoX c2.hs).pos, .int .i64 (redoX c2.hs).del, .string (redoX c2.hs).ins] 31))
              have hbb9 := hbb8.alloc hbb8.size (.cells #[.int .i64 (redoX c2.hs).pos, .int .i64 (redoX c2.hs).del, .string (redoX c2.hs).ins] 31)
              clear H8 hp hb8 hbb8
              go_wp2_with fail
              go_roundw
              case rel => exact ⟨i2 + 1, _, by omega, by go_num, HC4, HH8, hbb9⟩
              case measure => simp [intOf]; omega
            · have ht2 : c2.hs.t = T1 := by
                rw [← HT1.out]
                show tx c2.S (c2.E.take c2.d) = tx ch.S (ch.E.take ch.d)
                rw [y1.S, y2, y3, HC0.out.S, HD.out.1, HD.out.2]
                congr 2
                omega
              have HT2 := Lib.hid ht2
              have EQ := tl_eq
              clear y1 y2 y3 ht2
              go_wp2_with fail
              refine (text_any g c2.hs.t _ HH3'.out.text).mono ?_
              rw [HT2.out]
              rintro e w' ⟨rfl, rfl⟩
              go_wp2_with fail
              go_ret
              exact ⟨rfl, hb3'⟩
end Go.Proofs.Ytepohmklbfkdfaa
