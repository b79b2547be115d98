/- UndoHistory returns true for every input within the form's reach. -/
import Derived.Test.YtepohmklbfkdfaaURefR
namespace Go.Proofs.Ytepohmklbfkdfaa
open Go.RowKit

/-- Between the rounds. -/
structure HRel (w wr : World) (s : ByteArray) (g g6 k : Nat) (c : CH) (A : Option Addr) (n cp : Nat) (F : Nat → Prop) : Prop where
  inv : CInv s k c
  hist : Hist wr F g c.hs
  fF : ∀ b, F b → w.heap.size ≤ b ∧ b < wr.heap.size ∧ b ≠ g6
  x : Blk wr g6 29 #[.string c.S, .slice A n cp, .int .i64 c.d, .int .i64 c.v]
  ref : RefSt wr (fun b => b < wr.heap.size ∧ b ≠ g6 ∧ ¬ F b) c A n cp
  below : Below w.heap.size w wr
  gx : w.heap.size ≤ g6
/-- What the reference's call leaves. -/
def HCut (W : World) (P : Nat → Prop) (c2 : CH) (xp xd : Int) (xi : ByteArray) (E : Int) (s10 s11 s12 : Value) (wx : World) : Prop :=
  ∃ n10 n11 A n cp, s10 = .pointer (some ⟨n10, 0, none⟩) ∧ s11 = .pointer (some ⟨n11, 0, none⟩) ∧ s12 = .int .i64 E ∧ Blk wx n10 29 #[.string c2.S, .slice A n cp, .int .i64 c2.d, .int .i64 c2.v] ∧ Blk wx n11 31 #[.int .i64 xp, .int .i64 xd, .string xi] ∧
    RefSt wx (fun b => P b ∨ W.heap.size ≤ b) c2 A n cp ∧ Below W.heap.size W wx ∧ W.heap.size ≤ n11
section
variable {W w2 Wc : World} {P : Nat → Prop} {c2 : CH} {xp xd E : Int} {xi : ByteArray} {A : Option Addr} {n cp m10 m11 : Nat} {a0 a1 a2 a3 b0 b1 b2 : Value}
theorem hcut_AB (P10 : Blk w2 m10 29 #[a0, a1, a2, a3]) (P11 : Blk w2 m11 31 #[b0, b1, b2]) (hne : m10 ≠ m11) (X3 : Below W.heap.size W w2) (h10 : W.heap.size ≤ m10) (h11 : W.heap.size ≤ m11) (hPW : ∀ b, P b → b < W.heap.size) (hc0 : m10 < Wc.heap.size) (hc1 : m11 < Wc.heap.size) (hWc : W.heap.size ≤ Wc.heap.size)
    (hr : RefSt w2 (fun b => P b ∨ Wc.heap.size ≤ b) c2 A n cp) :
    HCut W P c2 xp xd xi E (.pointer (some ⟨m10, 0, none⟩)) (.pointer (some ⟨m11, 0, none⟩)) (.int .i64 E)
      (((((((w2.setCell ⟨m10, 0, none⟩ (.string c2.S)).setCell ⟨m10, 1, none⟩ (.slice A n cp)).setCell ⟨m10, 2, none⟩ (.int .i64 c2.d)).setCell ⟨m10, 3, none⟩ (.int .i64 c2.v)).setCell ⟨m11, 0, none⟩ (.int .i64 xp)).setCell ⟨m11, 1, none⟩ (.int .i64 xd)).setCell ⟨m11, 2, none⟩ (.string xi)) := by
  obtain ⟨F1, F2, F3, F4⟩ := end7n (w := W) P10 P11 hne X3 h10 h11 c2.S (.slice A n cp) (.int .i64 c2.d) (.int .i64 c2.v) (.int .i64 xp) (.int .i64 xd) (.string xi)
  exact ⟨m10, m11, A, n, cp, rfl, rfl, rfl, F1, F2, (hr.touch F4 (fun b hb e => by rcases hb with h | h; have := hPW b h; rcases e with e | e <;> omega; rcases e with e | e <;> omega)).mono (fun b hb => by rcases hb with h | h; exact .inl h; right; omega), F3, h11⟩
theorem hcut_C (P10 : Blk w2 m10 29 #[a0, a1, a2, a3]) (X3 : Below W.heap.size W w2) (h10 : W.heap.size ≤ m10) (hPW : ∀ b, P b → b < W.heap.size) (hc0 : m10 < Wc.heap.size) (hWc : W.heap.size ≤ Wc.heap.size) (hr : RefSt w2 (fun b => P b ∨ Wc.heap.size ≤ b) c2 A n cp) :
    HCut W P c2 xp xd xi E (.pointer (some ⟨m10, 0, none⟩)) (.pointer (some ⟨w2.heap.size, 0, none⟩)) (.int .i64 E)
      ((((((w2.setCell ⟨m10, 0, none⟩ (.string c2.S)).setCell ⟨m10, 1, none⟩ (.slice A n cp)).setCell ⟨m10, 2, none⟩ (.int .i64 c2.d)).setCell ⟨m10, 3, none⟩ (.int .i64 c2.v)).alloc (.cells #[.int .i64 xp, .int .i64 xd, .string xi] 31))) := by
  have T := ((((Touch.refl (fun b => b = m10) w2).setCell (p := ⟨m10, 0, none⟩) (.inl rfl) (.string c2.S)).setCell (p := ⟨m10, 1, none⟩) (.inl rfl) (.slice A n cp)).setCell (p := ⟨m10, 2, none⟩) (.inl rfl) (.int .i64 c2.d)).setCell (p := ⟨m10, 3, none⟩) (.inl rfl) (.int .i64 c2.v)
  have hr' := (hr.touch (T.alloc (.cells #[.int .i64 xp, .int .i64 xd, .string xi] 31)) (fun b hb e => by rcases hb with h | h; have := hPW b h; omega; omega)).mono (P' := fun b => P b ∨ W.heap.size ≤ b) (fun b hb => by rcases hb with h | h; exact .inl h; right; omega)
  have X4 := (((X3.setCell (p := ⟨m10, 0, none⟩) h10 (.string c2.S)).setCell (p := ⟨m10, 1, none⟩) h10 (.slice A n cp)).setCell (p := ⟨m10, 2, none⟩) h10 (.int .i64 c2.d)).setCell (p := ⟨m10, 3, none⟩) h10 (.int .i64 c2.v)
  exact ⟨m10, w2.heap.size, A, n, cp, rfl, rfl, rfl, (P10.set4 (.string c2.S) (.slice A n cp) (.int .i64 c2.d) (.int .i64 c2.v)).alloc _, Blk.new' _ _ _ (by simp [World.setCell]), hr', X4.alloc X4.size _, X3.size⟩
theorem hcut_D (P11 : Blk w2 m11 31 #[b0, b1, b2]) (X3 : Below W.heap.size W w2) (h11 : W.heap.size ≤ m11) (hPW : ∀ b, P b → b < W.heap.size) (hc1 : m11 < Wc.heap.size) (hWc : W.heap.size ≤ Wc.heap.size) (hr : RefSt w2 (fun b => P b ∨ Wc.heap.size ≤ b) c2 A n cp) :
    HCut W P c2 xp xd xi E (.pointer (some ⟨w2.heap.size, 0, none⟩)) (.pointer (some ⟨m11, 0, none⟩)) (.int .i64 E)
      ((((w2.setCell ⟨m11, 0, none⟩ (.int .i64 xp)).setCell ⟨m11, 1, none⟩ (.int .i64 xd)).setCell ⟨m11, 2, none⟩ (.string xi)).alloc (.cells #[.string c2.S, .slice A n cp, .int .i64 c2.d, .int .i64 c2.v] 29)) := by
  have T := (((Touch.refl (fun b => b = m11) w2).setCell (p := ⟨m11, 0, none⟩) (.inl rfl) (.int .i64 xp)).setCell (p := ⟨m11, 1, none⟩) (.inl rfl) (.int .i64 xd)).setCell (p := ⟨m11, 2, none⟩) (.inl rfl) (.string xi)
  have hr' := (hr.touch (T.alloc (.cells #[.string c2.S, .slice A n cp, .int .i64 c2.d, .int .i64 c2.v] 29)) (fun b hb e => by rcases hb with h | h; have := hPW b h; omega; omega)).mono (P' := fun b => P b ∨ W.heap.size ≤ b) (fun b hb => by rcases hb with h | h; exact .inl h; right; omega)
  have X4 := ((X3.setCell (p := ⟨m11, 0, none⟩) h11 (.int .i64 xp)).setCell (p := ⟨m11, 1, none⟩) h11 (.int .i64 xd)).setCell (p := ⟨m11, 2, none⟩) h11 (.string xi)
  exact ⟨w2.heap.size, m11, A, n, cp, rfl, rfl, rfl, Blk.new' _ _ _ (by simp [World.setCell]), (P11.set3 (.int .i64 xp) (.int .i64 xd) (.string xi)).alloc _, hr', X4.alloc X4.size _, h11⟩
theorem hcut_E (X3 : Below W.heap.size W w2) (hWc : W.heap.size ≤ Wc.heap.size) (hr : RefSt w2 (fun b => P b ∨ Wc.heap.size ≤ b) c2 A n cp) :
    HCut W P c2 xp xd xi E (.pointer (some ⟨w2.heap.size, 0, none⟩)) (.pointer (some ⟨w2.heap.size + 1, 0, none⟩)) (.int .i64 E) ((w2.alloc (.cells #[.string c2.S, .slice A n cp, .int .i64 c2.d, .int .i64 c2.v] 29)).alloc (.cells #[.int .i64 xp, .int .i64 xd, .string xi] 31)) := by
  have hb := ((Below.refl w2.heap.size w2).alloc (Nat.le_refl _) (.cells #[.string c2.S, .slice A n cp, .int .i64 c2.d, .int .i64 c2.v] 29)).alloc (by simp) (.cells #[.int .i64 xp, .int .i64 xd, .string xi] 31)
  exact ⟨_, _, A, n, cp, rfl, rfl, rfl, (Blk.new' _ _ _ rfl).alloc _, Blk.new' _ _ _ (by simp), (hr.below hb).mono (fun b hb => by rcases hb with h | h; exact .inl h; right; omega), X3.trans (hb.mono X3.size), by have := X3.size; omega⟩
theorem hcut_F (X3 : Below W.heap.size W w2) (hWc : W.heap.size ≤ Wc.heap.size) (hr : RefSt w2 (fun b => P b ∨ Wc.heap.size ≤ b) c2 A n cp) :
    HCut W P c2 xp xd xi E (.pointer (some ⟨w2.heap.size + 1, 0, none⟩)) (.pointer (some ⟨w2.heap.size, 0, none⟩)) (.int .i64 E) ((w2.alloc (.cells #[.int .i64 xp, .int .i64 xd, .string xi] 31)).alloc (.cells #[.string c2.S, .slice A n cp, .int .i64 c2.d, .int .i64 c2.v] 29)) := by
  have hb := ((Below.refl w2.heap.size w2).alloc (Nat.le_refl _) (.cells #[.int .i64 xp, .int .i64 xd, .string xi] 31)).alloc (by simp) (.cells #[.string c2.S, .slice A n cp, .int .i64 c2.d, .int .i64 c2.v] 29)
  exact ⟨_, _, A, n, cp, rfl, rfl, rfl, Blk.new' _ _ _ (by simp), (Blk.new' _ _ _ rfl).alloc _, (hr.below hb).mono (fun b hb => by rcases hb with h | h; exact .inl h; right; omega), X3.trans (hb.mono X3.size), X3.size⟩
end
theorem RefSt.bnd {w : World} {P : Nat → Prop} {c : CH} {A : Option Addr} {n cp : Nat} (h : RefSt w P c A n cp) : RefSt w (fun b => b < w.heap.size ∧ P b) c A n cp :=
  ⟨h.r, h.le, fun b off e hn => ⟨by obtain ⟨b', off', e', hb, _⟩ := h.r.2 hn; rw [e] at e'; cases e'; exact hb, h.loc b off e hn⟩⟩
theorem keep10 {w w' : World} {g6 n8 n11 : Nat} {x0 x1 x2 x3 a b c d e f : Value} (X : Blk w g6 29 #[x0, x1, x2, x3]) (N : Blk w n8 31 #[a, b, c]) (K : Blk w n11 31 #[d, e, f]) (hB : Below w.heap.size w w') :
    w'.cell? ⟨g6, 0, none⟩ = some x0 ∧ w'.cell? ⟨g6, 1, none⟩ = some x1 ∧ w'.cell? ⟨g6, 2, none⟩ = some x2 ∧ w'.cell? ⟨g6, 3, none⟩ = some x3 ∧ w'.cell? ⟨n8, 0, none⟩ = some a ∧ w'.cell? ⟨n8, 1, none⟩ = some b ∧ w'.cell? ⟨n8, 2, none⟩ = some c ∧
    w'.cell? ⟨n11, 0, none⟩ = some d ∧ w'.cell? ⟨n11, 1, none⟩ = some e ∧ w'.cell? ⟨n11, 2, none⟩ = some f ∧ Below w.heap.size w w' := by
  obtain ⟨x0, x1, x2, x3, _, _, _, _⟩ := blk4 (X.below hB X.lt)
  obtain ⟨a0, a1, a2, _, _, _⟩ := blk3 (N.below hB N.lt)
  obtain ⟨b0, b1, b2, _, _, _⟩ := blk3 (K.below hB K.lt)
  exact ⟨x0, x1, x2, x3, a0, a1, a2, b0, b1, b2, hB⟩
theorem keep4x {w w' : World} {g6 : Nat} {x0 x1 x2 x3 : Value} (X : Blk w g6 29 #[x0, x1, x2, x3]) (hB : Below w.heap.size w w') :
    w'.cell? ⟨g6, 0, none⟩ = some x0 ∧ w'.cell? ⟨g6, 1, none⟩ = some x1 ∧ w'.cell? ⟨g6, 2, none⟩ = some x2 ∧ w'.cell? ⟨g6, 3, none⟩ = some x3 ∧ Below w.heap.size w w' := by
  obtain ⟨x0, x1, x2, x3, _, _, _, _⟩ := blk4 (X.below hB X.lt)
  exact ⟨x0, x1, x2, x3, hB⟩
theorem Below.alloc' {w w' : World} (h : Below w.heap.size w w') (o : Obj) : Below w.heap.size w (w'.alloc o) := h.alloc h.size o
theorem HRel.go {w wr wr' : World} {s : ByteArray} {g g6 k : Nat} {c : CH} {A : Option Addr} {n cp : Nat} {F : Nat → Prop} (h : HRel w wr s g g6 k c A n cp F) (hb : Below wr.heap.size wr wr') : HRel w wr' s g g6 k c A n cp F :=
  ⟨h.inv, h.hist.below hb, fun b hF => ⟨(h.fF b hF).1, Nat.lt_of_lt_of_le (h.fF b hF).2.1 hb.size, (h.fF b hF).2.2⟩, h.x.below hb h.x.lt, (h.ref.below hb).mono (fun b hP => ⟨Nat.lt_of_lt_of_le hP.1 hb.size, hP.2⟩), h.below.trans (hb.mono h.below.size), h.gx⟩
theorem keep8 {w w' : World} {M N b i : Nat} {x0 x1 x2 x3 p q r u : Value} (h0 : w.cell? ⟨N, 0, none⟩ = some x0) (h1 : w.cell? ⟨N, 1, none⟩ = some x1) (h2 : w.cell? ⟨N, 2, none⟩ = some x2) (h3 : w.cell? ⟨N, 3, none⟩ = some x3)
    (g0 : w.cell? ⟨b, i, none⟩ = some p) (g1 : w.cell? ⟨b, i + 1, none⟩ = some q) (g2 : w.cell? ⟨b, i + 2, none⟩ = some r) (g3 : w.cell? ⟨b, i + 3, none⟩ = some u) (hN : N < M) (hb : b < M) (hB : Below M w w') :
    w'.cell? ⟨N, 0, none⟩ = some x0 ∧ w'.cell? ⟨N, 1, none⟩ = some x1 ∧ w'.cell? ⟨N, 2, none⟩ = some x2 ∧ w'.cell? ⟨N, 3, none⟩ = some x3 ∧ w'.cell? ⟨b, i, none⟩ = some p ∧ w'.cell? ⟨b, i + 1, none⟩ = some q ∧ w'.cell? ⟨b, i + 2, none⟩ = some r ∧ w'.cell? ⟨b, i + 3, none⟩ = some u ∧ Below M w w' :=
  ⟨(hB.cell (p := ⟨N, 0, none⟩) hN).trans h0, (hB.cell (p := ⟨N, 1, none⟩) hN).trans h1, (hB.cell (p := ⟨N, 2, none⟩) hN).trans h2, (hB.cell (p := ⟨N, 3, none⟩) hN).trans h3,
   (hB.cell (p := ⟨b, i, none⟩) hb).trans g0, (hB.cell (p := ⟨b, i + 1, none⟩) hb).trans g1, (hB.cell (p := ⟨b, i + 2, none⟩) hb).trans g2, (hB.cell (p := ⟨b, i + 3, none⟩) hb).trans g3, hB⟩

set_option maxRecDepth 100000 in
set_option maxHeartbeats 8000000 in
theorem lawHist_any (s : ByteArray) (A : Option Addr) (n c : Nat) (l : List St) (w : World) (hl : Reads w w.heap.size 4 A n (sts l)) (hn : n ≤ maxLen) (hs : s.size ≤ reachBytes) (ht : ∀ t ∈ l, t.e.ins.size ≤ reachBytes) :
    Calls Try.prog 3 #[.string s, .slice A n c] w fun e w' => e = .returned (.bool true) ∧ Below w.heap.size w w' := by
  have HL := Lib.hid hl
  have HLN := Lib.hid hl.len_sts
  have HT := Lib.hid ht
  have NE := tl_ne
  clear hl ht
  go_enter Try.func3, Try.ntmps3
  go_wp2_with fail
  refine (awake_any _).mono ?_
  rintro e w1 ⟨rfl, hb1⟩
  have hs1 := hb1.size
  have HL1 := Lib.hid (HL.out.below hb1)
  go_wp2_with fail
  refine (few_any s A n c w.heap.size l _ HL1.out hn hs HT.out).mono ?_
  rintro e w2 ⟨bo, rfl, hok, hb2⟩
  have hbb2 : Below w.heap.size w w2 := hb1.trans (hb2.mono hs1)
  have hs2 := hbb2.size
  clear hb2 HL1 hb1
  cases bo with
  | false =>
    go_wp2_with fail
    go_ret
    exact ⟨rfl, hbb2⟩
  | true =>
  obtain ⟨q1, q2⟩ := hok rfl
  have hsz : s.size ≤ 20000 := by omega
  have HQ := Lib.hid q2
  clear hok q2 hs hs1
  go_wp2_with fail
  refine (new_any s _).mono ?_
  rintro e w3 ⟨rfl, rfl⟩
  have H3 := new_hist s w2 (fun k => k = w2.heap.size) rfl
  have hb3 := hbb2.alloc hs2 (.cells #[.string s, .int .i64 0, .slice none 0 0, .slice none 0 0] 54)
  obtain ⟨g, hg⟩ : ∃ g, w2.heap.size = g := ⟨_, rfl⟩
  have hgl := H3.lt
  rw [hg] at H3 hgl hs2 ⊢
  have HH3 := Lib.hid H3
  clear H3 hg
  generalize w2.alloc (.cells #[.string s, .int .i64 0, .slice none 0 0, .slice none 0 0] 54) = w3 at *
  clear hbb2
  have REL : HRel w (w3.alloc (.cells #[.string s, .slice none 0 0, .int .i64 0, .int .i64 0] 29)) s g w3.heap.size 0 (CH.new s) none 0 0 (fun k => k = g) :=
    ⟨CInv.new s, HH3.out.alloc _, fun b hb => by subst hb; exact ⟨hs2, by simp; omega, by omega⟩, Blk.new' _ _ _ rfl, ⟨Reads.nil_, Nat.le_refl _, fun b off e => by cases e⟩, hb3.alloc hb3.size _, hb3.size⟩
  go_wp2_with fail
  obtain ⟨g6, hg6⟩ : ∃ g6, w3.heap.size = g6 := ⟨_, rfl⟩
  rw [hg6] at REL
  simp only [hg6]
  have HREL := Lib.hid REL
  clear REL hg6 HH3 hb3 hgl
  generalize w3.alloc (.cells #[.string s, .slice none 0 0, .int .i64 0, .int .i64 0] 29) = w4 at *
  go_loopw [7] (fun a wr => ∃ (k : Nat) (ch : CH) (A' : Option Addr) (n' cp' : Nat) (F : Nat → Prop), k ≤ n ∧ a = .int .i64 k ∧ Hid (HRel w wr s g g6 k ch A' n' cp' F)) (fun a _ => n - (intOf a).toNat)
  case atStart => exact ⟨0, _, _, _, _, _, Nat.zero_le _, rfl, HREL.out⟩
  case round =>
    obtain ⟨k, ch, A', n', cp', F, hk, rfl, HRR⟩ := hrel
    have hb := HRR.out.below
    have hsz4 := hb.size
    by_cases hlt : k < n
    · obtain ⟨b, off, t, rfl, hbl, htk, h0, h1, h2, h3⟩ := (HL.out.below hb).st_at hlt
      have hmem := sumSt_mem (List.mem_of_getElem? htk)
      have hins : t.e.ins.size ≤ 1048576 := by have := HQ.out; omega
      have HC := Lib.hid HRR.out.inv
      have HSM := Lib.hid (HC.out.small hsz (by omega))
      have HV := Lib.hid (HC.out.ver (by omega))
      have HC2 := Lib.hid (HC.out.step t)
      have HS := Lib.hid (HC.out.ok.step_hs t)
      obtain ⟨tk, tp, td, ti⟩ := t
      simp only at h0 h1 h2 h3 hins
      obtain ⟨ch2, hch2⟩ : ∃ c, ch.stepC ⟨tk, ⟨tp, td, ti⟩⟩ = c := ⟨_, rfl⟩
      obtain ⟨E, hE⟩ : ∃ E, stepE ch.hs ⟨tk, ⟨tp, td, ti⟩⟩ = E := ⟨_, rfl⟩
      obtain ⟨⟨xp, xd, xi⟩, hX⟩ : ∃ X, stepX ch.hs ⟨tk, ⟨tp, td, ti⟩⟩ = X := ⟨_, rfl⟩
      rw [hch2] at HC2 HS
      have HE := Lib.hid hE
      have HX := Lib.hid hX
      have HCH := Lib.hid hch2
      clear hmem htk hE hX hch2
      have hbr : b < wr.heap.size := by omega
      go_wp2_with fail
      refine (run_any F g ch.hs tk tp td ti _ HRR.out.hist HSM.out hins HV.out).mono ?_
      rw [HE.out, HX.out, ← HS.out]
      rintro e w5 ⟨rfl, hp⟩
      obtain ⟨G, H5, hG, T5, hb5⟩ := hp.next (N := w.heap.size) (fun k h => (HRR.out.fF k h).1) hsz4
      have hbb5 := hb.trans hb5
      have hz5 := T5.size
      have hz5b := hbb5.size
      have hgx := HRR.out.x.lt
      have hgx0 := HRR.out.gx
      have hG' : ∀ b, G b → w.heap.size ≤ b ∧ b < w5.heap.size ∧ b ≠ g6 := fun b hb => by
        obtain ⟨z1, z2⟩ := hG b hb
        rcases z2 with z | z
        · exact ⟨(HRR.out.fF b z).1, z1, (HRR.out.fF b z).2.2⟩
        · exact ⟨by omega, z1, by omega⟩
      have X5 := HRR.out.x.touch T5 (fun hF => (HRR.out.fF _ hF).2.2 rfl)
      have R5 := HRR.out.ref.touch T5 (fun b hb => hb.2.2)
      obtain ⟨P, hP⟩ : ∃ P : Nat → Prop, P = (fun b => b < wr.heap.size ∧ b ≠ g6 ∧ ¬ F b) := ⟨_, rfl⟩
      rw [← hP] at R5
      have hPW : ∀ b, P b → b < w5.heap.size ∧ b ≠ g6 ∧ ¬ G b := fun b hb => by
        rw [hP] at hb
        refine ⟨by omega, hb.2.1, fun hg => ?_⟩
        rcases (hG b hg).2 with z | z
        · exact hb.2.2 z
        · omega
      have h0 := (hb5.cell (p := ⟨b, off + k * 4, none⟩) hbl).trans h0
      have h1 := (hb5.cell (p := ⟨b, off + k * 4 + 1, none⟩) hbl).trans h1
      have h2 := (hb5.cell (p := ⟨b, off + k * 4 + 2, none⟩) hbl).trans h2
      have h3 := (hb5.cell (p := ⟨b, off + k * 4 + 3, none⟩) hbl).trans h3
      have h0 := cell_alloc h0 (.cells #[.int .i64 xp, .int .i64 xd, .string xi] 31)
      have h1 := cell_alloc h1 (.cells #[.int .i64 xp, .int .i64 xd, .string xi] 31)
      have h2 := cell_alloc h2 (.cells #[.int .i64 xp, .int .i64 xd, .string xi] 31)
      have h3 := cell_alloc h3 (.cells #[.int .i64 xp, .int .i64 xd, .string xi] 31)
      have N8 := Blk.new' w5 31 #[.int .i64 xp, .int .i64 xd, .string xi] rfl
      have XW := X5.alloc (.cells #[.int .i64 xp, .int .i64 xd, .string xi] 31)
      have RW := R5.below ((Below.refl _ _).alloc (Nat.le_refl _) (.cells #[.int .i64 xp, .int .i64 xd, .string xi] 31))
      have HW := H5.alloc (.cells #[.int .i64 xp, .int .i64 xd, .string xi] 31)
      have hbW := hbb5.alloc hz5b (.cells #[.int .i64 xp, .int .i64 xd, .string xi] 31)
      have hWz : (w5.alloc (.cells #[.int .i64 xp, .int .i64 xd, .string xi] 31)).heap.size = w5.heap.size + 1 := by simp
      have HK8 := Lib.hid (show k ≤ 800 by omega)
      have HTI := Lib.hid hins
      have i0 : (0 : Int) ≤ (k : Int) := by omega
      have i1 : (k : Int) < (n : Int) := by omega
      clear hp T5 hb5 hbb5 H5 X5 R5 hG hP HRR
      go_upto_region 11 with fail
      obtain ⟨W, hW⟩ : ∃ W, w5.alloc (.cells #[.int .i64 xp, .int .i64 xd, .string xi] 31) = W := ⟨_, rfl⟩
      rw [hW] at h0 h1 h2 h3 N8 XW RW HW hbW hWz ⊢
      clear hW
      obtain ⟨n8, hn8⟩ : ∃ n8, w5.heap.size = n8 := ⟨_, rfl⟩
      have hn8W : n8 < W.heap.size := by omega
      have hG6W : g6 < W.heap.size := by omega
      have hbW2 : b < W.heap.size := by omega
      have hPW0 : ∀ b, P b → b < W.heap.size := fun b hb => by have := (hPW b hb).1; omega
      rw [hn8] at N8
      simp only [hn8]
      go_cut [10, 11, 12] (fun s10 s11 s12 wx => HCut W P ch2 xp xd xi E s10 s11 s12 wx)
      case first =>
        obtain ⟨x0, x1, x2, x3, _, _, _, _⟩ := blk4 XW
        have HG6 := Lib.hid hG6W
        have HBW := Lib.hid hbW2
        have HPW := Lib.hid hPW0
        have LE0 : W.heap.size ≤ W.drew.heap.size := Nat.le_refl _
        have LEa : W.heap.size ≤ (W.alloc (.cells #[.string ⟨#[]⟩, .slice none 0 0, .int .i64 0, .int .i64 0] 29)).heap.size := size_al0 (Nat.le_refl _)
        have LEb : W.heap.size ≤ (W.alloc (.cells #[.int .i64 0, .int .i64 0, .string ⟨#[]⟩] 31)).heap.size := size_al0 (Nat.le_refl _)
        have LE1 : W.heap.size ≤ (W.alloc (.cells #[.string ⟨#[]⟩, .slice none 0 0, .int .i64 0, .int .i64 0] 29)).drew.heap.size := LEa
        have LE2 : W.heap.size ≤ (W.alloc (.cells #[.int .i64 0, .int .i64 0, .string ⟨#[]⟩] 31)).drew.heap.size := LEb
        have LE3 : W.heap.size ≤ ((W.alloc (.cells #[.string ⟨#[]⟩, .slice none 0 0, .int .i64 0, .int .i64 0] 29)).alloc (.cells #[.int .i64 0, .int .i64 0, .string ⟨#[]⟩] 31)).drew.heap.size := size_al0' LEa
        have LE4 : W.heap.size ≤ ((W.alloc (.cells #[.int .i64 0, .int .i64 0, .string ⟨#[]⟩] 31)).alloc (.cells #[.string ⟨#[]⟩, .slice none 0 0, .int .i64 0, .int .i64 0] 29)).drew.heap.size := size_al0' LEb
        have LT1 : W.heap.size < (W.alloc (.cells #[.string ⟨#[]⟩, .slice none 0 0, .int .i64 0, .int .i64 0] 29)).drew.heap.size := by show W.heap.size < (W.alloc _).heap.size; simp
        have LT2 : W.heap.size < (W.alloc (.cells #[.int .i64 0, .int .i64 0, .string ⟨#[]⟩] 31)).drew.heap.size := by show W.heap.size < (W.alloc _).heap.size; simp
        have LT3 : W.heap.size < ((W.alloc (.cells #[.string ⟨#[]⟩, .slice none 0 0, .int .i64 0, .int .i64 0] 29)).alloc (.cells #[.int .i64 0, .int .i64 0, .string ⟨#[]⟩] 31)).drew.heap.size := by show W.heap.size < ((W.alloc _).alloc _).heap.size; simp; omega
        have LT3b : W.heap.size + 1 < ((W.alloc (.cells #[.string ⟨#[]⟩, .slice none 0 0, .int .i64 0, .int .i64 0] 29)).alloc (.cells #[.int .i64 0, .int .i64 0, .string ⟨#[]⟩] 31)).drew.heap.size := by show W.heap.size + 1 < ((W.alloc _).alloc _).heap.size; simp
        have LT4 : W.heap.size < ((W.alloc (.cells #[.int .i64 0, .int .i64 0, .string ⟨#[]⟩] 31)).alloc (.cells #[.string ⟨#[]⟩, .slice none 0 0, .int .i64 0, .int .i64 0] 29)).drew.heap.size := by show W.heap.size < ((W.alloc _).alloc _).heap.size; simp; omega
        have LT4b : W.heap.size + 1 < ((W.alloc (.cells #[.int .i64 0, .int .i64 0, .string ⟨#[]⟩] 31)).alloc (.cells #[.string ⟨#[]⟩, .slice none 0 0, .int .i64 0, .int .i64 0] 29)).drew.heap.size := by show W.heap.size + 1 < ((W.alloc _).alloc _).heap.size; simp
        have BZ1 := Lib.hid (blk_drew (Blk.new' W 29 #[.string ⟨#[]⟩, .slice none 0 0, .int .i64 0, .int .i64 0] rfl))
        have BE2 := Lib.hid (blk_drew (Blk.new' W 31 #[.int .i64 0, .int .i64 0, .string ⟨#[]⟩] rfl))
        have BE1 := BE2
        have BZ3 := Lib.hid (blk_drew ((Blk.new' W 29 #[.string ⟨#[]⟩, .slice none 0 0, .int .i64 0, .int .i64 0] rfl).alloc (.cells #[.int .i64 0, .int .i64 0, .string ⟨#[]⟩] 31)))
        have BE3 := Lib.hid (blk_drew (Blk.new' (g := W.heap.size + 1) (W.alloc (.cells #[.string ⟨#[]⟩, .slice none 0 0, .int .i64 0, .int .i64 0] 29)) 31 #[.int .i64 0, .int .i64 0, .string ⟨#[]⟩] (by simp)))
        have BE4 := Lib.hid (blk_drew ((Blk.new' W 31 #[.int .i64 0, .int .i64 0, .string ⟨#[]⟩] rfl).alloc (.cells #[.string ⟨#[]⟩, .slice none 0 0, .int .i64 0, .int .i64 0] 29)))
        have BZ4 := Lib.hid (blk_drew (Blk.new' (g := W.heap.size + 1) (W.alloc (.cells #[.int .i64 0, .int .i64 0, .string ⟨#[]⟩] 31)) 29 #[.string ⟨#[]⟩, .slice none 0 0, .int .i64 0, .int .i64 0] (by simp)))
        have hneA : W.heap.size ≠ W.heap.size + 1 := by omega
        have hneB : W.heap.size + 1 ≠ W.heap.size := by omega
        have RS0 := Lib.hid (RefSt.drew RW)
        have RS1 := Lib.hid (RefSt.drew (RW.below ((Below.refl _ _).alloc (Nat.le_refl _) (.cells #[.string ⟨#[]⟩, .slice none 0 0, .int .i64 0, .int .i64 0] 29))))
        have RS2 := Lib.hid (RefSt.drew (RW.below ((Below.refl _ _).alloc (Nat.le_refl _) (.cells #[.int .i64 0, .int .i64 0, .string ⟨#[]⟩] 31))))
        have RS3 := Lib.hid (RefSt.drew (RW.below (((Below.refl _ _).alloc (Nat.le_refl _) (.cells #[.string ⟨#[]⟩, .slice none 0 0, .int .i64 0, .int .i64 0] 29)).alloc LEa (.cells #[.int .i64 0, .int .i64 0, .string ⟨#[]⟩] 31))))
        have RS4 := Lib.hid (RefSt.drew (RW.below (((Below.refl _ _).alloc (Nat.le_refl _) (.cells #[.int .i64 0, .int .i64 0, .string ⟨#[]⟩] 31)).alloc LEb (.cells #[.string ⟨#[]⟩, .slice none 0 0, .int .i64 0, .int .i64 0] 29))))
        have PB0 := Lib.hid (show ∀ b, P b → b < W.drew.heap.size from fun b hb => Nat.lt_of_lt_of_le (hPW0 b hb) LE0)
        have PB1 := Lib.hid (show ∀ b, P b → b < (W.alloc (.cells #[.string ⟨#[]⟩, .slice none 0 0, .int .i64 0, .int .i64 0] 29)).drew.heap.size from fun b hb => Nat.lt_of_lt_of_le (hPW0 b hb) LE1)
        have PB2 := Lib.hid (show ∀ b, P b → b < (W.alloc (.cells #[.int .i64 0, .int .i64 0, .string ⟨#[]⟩] 31)).drew.heap.size from fun b hb => Nat.lt_of_lt_of_le (hPW0 b hb) LE2)
        have PB3 := Lib.hid (show ∀ b, P b → b < ((W.alloc (.cells #[.string ⟨#[]⟩, .slice none 0 0, .int .i64 0, .int .i64 0] 29)).alloc (.cells #[.int .i64 0, .int .i64 0, .string ⟨#[]⟩] 31)).drew.heap.size from fun b hb => Nat.lt_of_lt_of_le (hPW0 b hb) LE3)
        have PB4 := Lib.hid (show ∀ b, P b → b < ((W.alloc (.cells #[.int .i64 0, .int .i64 0, .string ⟨#[]⟩] 31)).alloc (.cells #[.string ⟨#[]⟩, .slice none 0 0, .int .i64 0, .int .i64 0] 29)).drew.heap.size from fun b hb => Nat.lt_of_lt_of_le (hPW0 b hb) LE4)
        have HHG := Lib.hid hG'
        clear hPW hPW0 hG' XW RW N8 HW hbW hWz hn8 hn8W hb
        go_region_held3 (fun w' => w'.cell? ⟨g6, 0, none⟩ = some (.string ch.S) ∧ w'.cell? ⟨g6, 1, none⟩ = some (.slice A' n' cp') ∧ w'.cell? ⟨g6, 2, none⟩ = some (.int .i64 ch.d) ∧ w'.cell? ⟨g6, 3, none⟩ = some (.int .i64 ch.v) ∧ w'.cell? ⟨b, off + k * 4, none⟩ = some (.int .u8 tk) ∧ w'.cell? ⟨b, off + k * 4 + 1, none⟩ = some (.int .i64 tp) ∧ w'.cell? ⟨b, off + k * 4 + 2, none⟩ = some (.int .i64 td) ∧ w'.cell? ⟨b, off + k * 4 + 3, none⟩ = some (.string ti) ∧ Below W.heap.size W w')
          (first | (refine keep8 x0 x1 x2 x3 h0 h1 h2 h3 HG6.out HBW.out ?_; repeat' (first | with_reducible exact X3 | with_reducible exact Below.refl _ _ | with_reducible refine Below.drew ?_ | with_reducible refine Below.setCell ?_ ?_ _ | with_reducible refine Below.alloc' ?_ _ | with_reducible exact Nat.le_refl _ | (simp only []; omega) | (simp; omega))))
          (first | (go_at_call 13; (with_reducible refine (refRun_any s k ch A' n' cp' tk tp td ti _ HC.out hsz HK8.out HTI.out P PB0.out RS0.out).mono ?_); rw [HCH.out, HX.out, HE.out]; rintro e w2 ⟨A2, n2, cp2, rfl, hr2, hb2⟩; unfold stV edV; have X3 : Below W.heap.size W w2 := ((Below.refl _ W).drew).trans (hb2.mono LE0); have X3z : W.heap.size ≤ w2.heap.size := X3.size; have HR2 := Lib.hid hr2; clear hr2) | (go_at_call 13; (with_reducible refine (refRun_any s k ch A' n' cp' tk tp td ti _ HC.out hsz HK8.out HTI.out P PB1.out RS1.out).mono ?_); rw [HCH.out, HX.out, HE.out]; rintro e w2 ⟨A2, n2, cp2, rfl, hr2, hb2⟩; unfold stV edV; have X3 : Below W.heap.size W w2 := (((Below.refl _ W).alloc (Nat.le_refl _) (.cells #[.string ⟨#[]⟩, .slice none 0 0, .int .i64 0, .int .i64 0] 29)).drew).trans (hb2.mono LE1); have X3z : W.heap.size ≤ w2.heap.size := X3.size; have HR2 := Lib.hid hr2; clear hr2; have P10 := BZ1.out.below hb2 LT1; obtain ⟨r0, r1, r2, r3, f0, f1, f2, f3⟩ := blk4 P10; have N1 := P10.lt; have N2 : W.heap.size ≠ w2.heap.size := Nat.ne_of_lt N1; have N3 : w2.heap.size ≠ W.heap.size := Ne.symm N2) | (go_at_call 13; (with_reducible refine (refRun_any s k ch A' n' cp' tk tp td ti _ HC.out hsz HK8.out HTI.out P PB2.out RS2.out).mono ?_); rw [HCH.out, HX.out, HE.out]; rintro e w2 ⟨A2, n2, cp2, rfl, hr2, hb2⟩; unfold stV edV; have X3 : Below W.heap.size W w2 := (((Below.refl _ W).alloc (Nat.le_refl _) (.cells #[.int .i64 0, .int .i64 0, .string ⟨#[]⟩] 31)).drew).trans (hb2.mono LE2); have X3z : W.heap.size ≤ w2.heap.size := X3.size; have HR2 := Lib.hid hr2; clear hr2; have P11 := BE1.out.below hb2 LT2; obtain ⟨s0, s1, s2, g0, g1, g2⟩ := blk3 P11; have N1 := P11.lt; have N2 : W.heap.size ≠ w2.heap.size := Nat.ne_of_lt N1; have N3 : w2.heap.size ≠ W.heap.size := Ne.symm N2) | (go_at_call 13; (with_reducible refine (refRun_any s k ch A' n' cp' tk tp td ti _ HC.out hsz HK8.out HTI.out P PB3.out RS3.out).mono ?_); rw [HCH.out, HX.out, HE.out]; rintro e w2 ⟨A2, n2, cp2, rfl, hr2, hb2⟩; unfold stV edV; have X3 : Below W.heap.size W w2 := ((((Below.refl _ W).alloc (Nat.le_refl _) (.cells #[.string ⟨#[]⟩, .slice none 0 0, .int .i64 0, .int .i64 0] 29)).alloc LEa (.cells #[.int .i64 0, .int .i64 0, .string ⟨#[]⟩] 31)).drew).trans (hb2.mono LE3); have X3z : W.heap.size ≤ w2.heap.size := X3.size; have HR2 := Lib.hid hr2; clear hr2; have P10 := BZ3.out.below hb2 LT3; obtain ⟨r0, r1, r2, r3, f0, f1, f2, f3⟩ := blk4 P10; have P11 := BE3.out.below hb2 LT3b; obtain ⟨s0, s1, s2, g0, g1, g2⟩ := blk3 P11; have HNE := hneA) | (go_at_call 13; (with_reducible refine (refRun_any s k ch A' n' cp' tk tp td ti _ HC.out hsz HK8.out HTI.out P PB4.out RS4.out).mono ?_); rw [HCH.out, HX.out, HE.out]; rintro e w2 ⟨A2, n2, cp2, rfl, hr2, hb2⟩; unfold stV edV; have X3 : Below W.heap.size W w2 := ((((Below.refl _ W).alloc (Nat.le_refl _) (.cells #[.int .i64 0, .int .i64 0, .string ⟨#[]⟩] 31)).alloc LEb (.cells #[.string ⟨#[]⟩, .slice none 0 0, .int .i64 0, .int .i64 0] 29)).drew).trans (hb2.mono LE4); have X3z : W.heap.size ≤ w2.heap.size := X3.size; have HR2 := Lib.hid hr2; clear hr2; have P11 := BE4.out.below hb2 LT4; obtain ⟨s0, s1, s2, g0, g1, g2⟩ := blk3 P11; have P10 := BZ4.out.below hb2 LT4b; obtain ⟨r0, r1, r2, r3, f0, f1, f2, f3⟩ := blk4 P10; have HNE := hneB))
        all_goals
          go_wp2_with fail
          go_meet
          first
            | with_reducible exact hcut_AB P10 P11 HNE X3 (by first | exact Nat.le_refl _ | exact Nat.le_succ _) (by first | exact Nat.le_refl _ | exact Nat.le_succ _) HPW.out (by assumption) (by assumption) (by assumption) HR2.out
            | with_reducible exact hcut_C P10 X3 (Nat.le_refl _) HPW.out (by assumption) (by assumption) HR2.out
            | with_reducible exact hcut_D P11 X3 (Nat.le_refl _) HPW.out (by assumption) (by assumption) HR2.out
            | with_reducible exact hcut_E X3 (by assumption) HR2.out
            | with_reducible exact hcut_F X3 (by assumption) HR2.out
      case rest =>
        obtain ⟨n10, n11, A2, n2, cp2, rfl, rfl, rfl, K10, K11, R2, B2, hn11⟩ := hcut
        have hWc : W.heap.size ≤ wc.heap.size := B2.size
        have X6 := XW.below B2 hG6W
        have N6 := N8.below B2 hn8W
        have H6 := HW.below B2
        have hb6 := hbW.trans (B2.mono hbW.size)
        obtain ⟨x0, x1, x2, x3, f0, f1, f2, f3⟩ := blk4 X6
        obtain ⟨y0, y1, y2, y3, _, _, _, _⟩ := blk4 K10
        have hgw : w.heap.size ≤ g6 := hgx0
        have T7 := ((((Touch.refl (fun b => b = g6) wc).setCell (p := ⟨g6, 0, none⟩) (.inl rfl) (.string ch2.S)).setCell (p := ⟨g6, 1, none⟩) (.inl rfl) (.slice A2 n2 cp2)).setCell (p := ⟨g6, 2, none⟩) (.inl rfl) (.int .i64 ch2.d)).setCell (p := ⟨g6, 3, none⟩) (.inl rfl) (.int .i64 ch2.v)
        have X7 := X6.set4 (.string ch2.S) (.slice A2 n2 cp2) (.int .i64 ch2.d) (.int .i64 ch2.v)
        have N7 := N6.touch T7 (by omega)
        have K7 := K11.touch T7 (by omega)
        have H7 := H6.touch T7 (fun b hb => (hG' b hb).2.2)
        have R7 := R2.touch T7 (fun b hb e => by rcases hb with h | h; exact (hPW b h).2.1 e; omega)
        have hb7 := (((hb6.setCell (p := ⟨g6, 0, none⟩) hgw (.string ch2.S)).setCell (p := ⟨g6, 1, none⟩) hgw (.slice A2 n2 cp2)).setCell (p := ⟨g6, 2, none⟩) hgw (.int .i64 ch2.d)).setCell (p := ⟨g6, 3, none⟩) hgw (.int .i64 ch2.v)
        have R7b := R7.bnd.mono (P' := fun b => b < ((((wc.setCell ⟨g6, 0, none⟩ (.string ch2.S)).setCell ⟨g6, 1, none⟩ (.slice A2 n2 cp2)).setCell ⟨g6, 2, none⟩ (.int .i64 ch2.d)).setCell ⟨g6, 3, none⟩ (.int .i64 ch2.v)).heap.size ∧ b ≠ g6 ∧ ¬ G b) (fun b hb => ⟨hb.1, by
          rcases hb.2 with h | h
          · exact (hPW b h).2
          · exact ⟨by omega, fun hg => by have := (hG' b hg).2.1; omega⟩⟩)
        have T7s := T7.size
        have HXT := Lib.hid X7
        have HNT := Lib.hid N7
        have HKT := Lib.hid K7
        have HRT := Lib.hid R7b
        have HHT := Lib.hid H7
        obtain ⟨dd1, dd2⟩ := ch2.depth HC2.out.ok
        have hlen := HC2.out.E
        have hnE := R7b.r.len_eds
        have hdE := HC2.out.ok.d
        have HFI := Lib.hid (HC2.out.fine hsz)
        have HT1 := Lib.hid (show tx ch2.S (ch2.E.take ch2.d) = ch2.hs.t from rfl)
        have hG7 : ∀ b, G b → w.heap.size ≤ b ∧ b < ((((wc.setCell ⟨g6, 0, none⟩ (.string ch2.S)).setCell ⟨g6, 1, none⟩ (.slice A2 n2 cp2)).setCell ⟨g6, 2, none⟩ (.int .i64 ch2.d)).setCell ⟨g6, 3, none⟩ (.int .i64 ch2.v)).heap.size ∧ b ≠ g6 := fun b hb => ⟨(hG' b hb).1, by have := (hG' b hb).2.1; omega, (hG' b hb).2.2⟩
        have HG7 := Lib.hid hG7
        have HB7 := Lib.hid hb7
        clear hPW hPW0 hG' XW RW N8 HW hbW hWz R2 B2 X6 N6 H6 hb6 K10 K11 N7 K7 R7 R7b H7 X7 hG7 hb7 T7 h0 h1 h2 h3
        go_wp2_with fail
        obtain ⟨w7, hw7⟩ : ∃ w7, (((wc.setCell ⟨g6, 0, none⟩ (.string ch2.S)).setCell ⟨g6, 1, none⟩ (.slice A2 n2 cp2)).setCell ⟨g6, 2, none⟩ (.int .i64 ch2.d)).setCell ⟨g6, 3, none⟩ (.int .i64 ch2.v) = w7 := ⟨_, rfl⟩
        rw [hw7] at HXT HNT HKT HRT HHT HG7 HB7 ⊢
        clear hw7 x0 x1 x2 x3 f0 f1 f2 f3 y0 y1 y2 y3
        refine (depth_any g G ch2.hs _ HHT.out).mono ?_
        rw [dd1, dd2]
        rintro e w9 ⟨rfl, nd, hw9⟩
        have Xd : Below w7.heap.size w7 w9 := by rw [hw9]; exact ⟨rfl, rfl, rfl, Nat.le_refl _, fun k hk => rfl⟩
        have HR9 := Lib.hid (HRel.go (⟨HC2.out, HHT.out, HG7.out, HXT.out, HRT.out, HB7.out, hgw⟩ : HRel w w7 s g g6 (k + 1) ch2 A2 n2 cp2 G) Xd)
        have HN9 := Lib.hid (HNT.out.below Xd HNT.out.lt)
        have HK9 := Lib.hid (HKT.out.below Xd HKT.out.lt)
        clear hw9 Xd HNT HKT HRT HHT HG7 HXT HB7
        have e1 : ((((ch2.E.length - ch2.d : Nat) : Int)) != (n2 : Int) - (ch2.d : Int)) = false := by rw [bne_eq_false_iff_eq]; omega
        have e2 : IntKind.i64.wrap ((n2 : Int) - (ch2.d : Int)) = (n2 : Int) - (ch2.d : Int) := IntWalk.i64_in _ (by omega)
        have e3 : ((ch2.d : Int) != (ch2.d : Int)) = false := by simp
        have e4 : ((ch2.v : Int) != (ch2.v : Int)) = false := by simp
        have e5 : (E != E) = false := by simp
        have hneq := fun w => run_neq_ed w
        have ES := Ed.eqb_self
        obtain ⟨T, hT⟩ : ∃ T, ch2.hs.t = T := ⟨_, rfl⟩
        have HT := Lib.hid hT
        have htc := HR9.out.hist.text
        rw [hT] at htc
        have hvc : w9.cell? ⟨g, 1, none⟩ = some (.int .i64 ch2.v) := HR9.out.hist.ver
        have hgl := HR9.out.hist.lt
        have HRD := Lib.hid (show Reads w9.drew w9.heap.size 3 A2 n2 (eds ch2.E) from HR9.out.ref.r)
        have HX0 := Lib.hid (show Below w9.heap.size w9 w9.drew from (Below.refl _ _).drew)
        have X0z : w9.heap.size ≤ w9.drew.heap.size := Nat.le_refl _
        have hn2 : n2 ≤ 1000 := by omega
        have hdn : ch2.d ≤ n2 := by omega
        clear hT
        go_wp2_with fail
        go_region_held3 (fun w' => w'.cell? ⟨g6, 0, none⟩ = some (.string ch2.S) ∧ w'.cell? ⟨g6, 1, none⟩ = some (.slice A2 n2 cp2) ∧ w'.cell? ⟨g6, 2, none⟩ = some (.int .i64 ch2.d) ∧ w'.cell? ⟨g6, 3, none⟩ = some (.int .i64 ch2.v) ∧ w'.cell? ⟨n8, 0, none⟩ = some (.int .i64 xp) ∧ w'.cell? ⟨n8, 1, none⟩ = some (.int .i64 xd) ∧ w'.cell? ⟨n8, 2, none⟩ = some (.string xi) ∧ w'.cell? ⟨n11, 0, none⟩ = some (.int .i64 xp) ∧ w'.cell? ⟨n11, 1, none⟩ = some (.int .i64 xd) ∧ w'.cell? ⟨n11, 2, none⟩ = some (.string xi) ∧ Below w9.heap.size w9 w')
          (first | with_reducible exact keep10 HR9.out.x HN9.out HK9.out HX0.out | with_reducible exact keep10 HR9.out.x HN9.out HK9.out X8)
          (first
            | (go_at_call 15; refine (text_any g T _ (by exact htc)).mono ?_; rintro e w' ⟨rfl, rfl⟩)
            | (go_at_call 16; (with_reducible refine (refText_any ch2.S A2 n2 cp2 w9.heap.size ch2.d ch2.v ch2.E _ HRD.out X0z hdn hn2 HFI.out).mono ?_); rw [HT1.out, HT.out]; rintro e w8 ⟨rfl, hb8⟩; have X8 : Below w9.heap.size w9 w8 := HX0.out.trans (hb8.mono X0z); have hvc8 := (X8.cell (p := ⟨g, 1, none⟩) hgl).trans hvc)
            | (go_at_call 17; refine (version_any g ch2.v _ (by exact hvc8)).mono ?_; rintro e w' ⟨rfl, rfl⟩))
        go_wp2_with fail
        go_roundw
        case rel => exact ⟨k + 1, ch2, A2, n2, cp2, G, by omega, by go_num, HRel.go HR9.out X8⟩
        case measure => simp [intOf]; omega
    · have hkn : k = n := by omega
      subst hkn
      have HC := Lib.hid HRR.out.inv
      have R := HRR.out.ref.r
      have hnE := R.len_eds
      have hlen := HC.out.E
      have hdE := HC.out.ok.d
      have hn2 : n' ≤ 1000 := by omega
      have hdn : ch.d ≤ n' := by omega
      have HFI := Lib.hid (HC.out.fine hsz)
      have HXT := Lib.hid HRR.out.x
      obtain ⟨T, hT⟩ : ∃ T, ch.hs.t = T := ⟨_, rfl⟩
      have HT1 := Lib.hid (show tx ch.S (ch.E.take ch.d) = T from hT)
      have htc := HRR.out.hist.text
      rw [hT] at htc
      have hgl := HRR.out.hist.lt
      have HRD := Lib.hid (show Reads wr.drew wr.heap.size 3 A' n' (eds ch.E) from R)
      have X0 : Below wr.heap.size wr wr.drew := (Below.refl _ _).drew
      have X0z : wr.heap.size ≤ wr.drew.heap.size := Nat.le_refl _
      have HX0 := Lib.hid X0
      have EQ := tl_eq
      clear hT R X0 hnE hlen hdE
      go_wp2_with fail
      go_region_held3 (fun w' => w'.cell? ⟨g6, 0, none⟩ = some (.string ch.S) ∧ w'.cell? ⟨g6, 1, none⟩ = some (.slice A' n' cp') ∧ w'.cell? ⟨g6, 2, none⟩ = some (.int .i64 ch.d) ∧ w'.cell? ⟨g6, 3, none⟩ = some (.int .i64 ch.v) ∧ Below wr.heap.size wr w')
        (first | with_reducible exact keep4x HXT.out HX0.out | with_reducible exact keep4x HXT.out X8)
        (first
          | (go_at_call 15; refine (text_any g T _ (by exact htc)).mono ?_; rintro e w' ⟨rfl, rfl⟩)
          | (go_at_call 15; refine (text_any g T _ (by exact ((X8.cell (p := ⟨g, 0, none⟩) hgl).trans htc))).mono ?_; rintro e w' ⟨rfl, rfl⟩)
          | (go_at_call 16; (with_reducible refine (refText_any ch.S A' n' cp' wr.heap.size ch.d ch.v ch.E _ HRD.out X0z hdn hn2 HFI.out).mono ?_); rw [HT1.out]; rintro e w8 ⟨rfl, hb8⟩; have X8 : Below wr.heap.size wr w8 := HX0.out.trans (hb8.mono X0z)))
      all_goals
        go_wp2_with fail
        go_ret
        exact ⟨rfl, hb.trans (X8.mono hsz4)⟩
end Go.Proofs.Ytepohmklbfkdfaa
