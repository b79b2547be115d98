/- The rope: its text; its halves. -/
import Derived.Test.YtibdcnmaodmghaaGreatDoorRa
import Derived.Test.YtibdcnmaodmghaaGreatDoorBld
import Derived.Test.YtibdcnmaodmghaaGreatDoorRt
import Derived.Deep.RegionHeld3
section
namespace Go.Proofs.YtibdcnmaodmghaaGreatDoor
open Go.RowKit
set_option maxRecDepth 20000
theorem piece_any (B b : Nat) (bs : List Value) (s : ByteArray) (w : World) (h : Lib.IsBuilder 217 5 B b bs w) (hlen : bs.length + s.size ≤ 1000000000) (hBw : B ≤ w.heap.size) :
    Calls Tryz.prog 87 #[.string s, .pointer (some ⟨b, 0, none⟩)] w fun e w' => e = .returned (.bool true) ∧ (Lib.BuilderAt 217 5 B b (.pointer (some ⟨b, 0, none⟩)) (bs ++ Lib.strCells s) w' ∧ Below B w w') := by
  have e88 : ∀ args w, (callFunc 88 args).run Tryz.prog w = .ok (.enter 88 args) w := enters_of Tryz.func88 (by kernel_rfl) rfl
  go_enter Tryz.func87, Tryz.ntmps87
  go_wp2_with (go_at_fn 88; refine (writeString_any B b bs s _ h hlen hBw).mono ?_)
  rintro e w1 ⟨⟨v, rfl⟩, h1, hb1⟩
  go_wp2
  go_ret
  exact ⟨rfl, h1, hb1⟩
theorem strCells_append (s t : ByteArray) : Lib.strCells (s ++ t) = Lib.strCells s ++ Lib.strCells t := by
  simp [Lib.strCells]
set_option maxHeartbeats 1000000 in
theorem walk_any (B b : Nat) : ∀ (sh : Sh) (bs : List Value) (w : World), sh.At w B → Lib.IsBuilder 217 5 B b bs w → bs.length + sh.text.size ≤ 1000000000 → B ≤ w.heap.size →
    Calls Tryz.prog 86 #[sh.ptr, .func (.func 87) #[] #[.pointer (some ⟨b, 0, none⟩)]] w fun e w' => e = .returned (.bool true) ∧ (Lib.IsBuilder 217 5 B b (bs ++ Lib.strCells sh.text) w' ∧ Below B w w')
  | .nil, bs, w, _, hI, _, _ => by
    show Calls Tryz.prog 86 #[.pointer none, _] w _
    go_enter Tryz.func86, Tryz.ntmps86
    go_wp2_with fail
    go_ret
    exact ⟨rfl, by simpa [Lib.strCells, Sh.text] using hI, Below.refl _ _⟩
  | .leaf g t, bs, w, hA, hI, hl, hB => by
    obtain ⟨h1, h2, h3⟩ := hA
    have c0 := h3.cell 0
    have c1 := h3.cell 1
    simp at c0 c1
    have e87 : ∀ args w, (callFunc 87 args).run Tryz.prog w = .ok (.enter 87 args) w := enters_of Tryz.func87 (by kernel_rfl) rfl
    show Calls Tryz.prog 86 #[.pointer (some ⟨g, 0, none⟩), _] w _
    go_enter Tryz.func86, Tryz.ntmps86
    go_wp2_with (go_at_fn 87; refine (piece_any B b bs t _ hI hl hB).mono ?_)
    rintro e w1 ⟨rfl, k1, hb1⟩
    go_wp2
    go_ret
    exact ⟨rfl, .inr k1, hb1⟩
  | .inn g l r z, bs, w, hA, hI, hl, hB => by
    obtain ⟨h1, nl, nr, hL, hR, h3⟩ := hA
    obtain ⟨gl, tl, pl, ql, zl, el, ll, kl⟩ := hL.root nl
    rw [Sh.text_inn] at hl
    have c1 := h3.cell 1
    have c2 := h3.cell 2
    simp at c1 c2
    have IHl := walk_any B b l bs w hL hI (by omega) hB
    have e86 : ∀ args w, (callFunc 86 args).run Tryz.prog w = .ok (.enter 86 args) w := enters_of Tryz.func86 (by kernel_rfl) rfl
    rw [el] at c1 IHl
    show Calls Tryz.prog 86 #[.pointer (some ⟨g, 0, none⟩), _] w _
    go_enter Tryz.func86, Tryz.ntmps86
    go_wp2_with (go_at_fn 86; refine IHl.mono ?_)
    rintro e w1 ⟨rfl, k1, hb1⟩
    have c2' := (hb1.cell (p := ⟨g, 2, none⟩) h1).trans c2
    have IHr := walk_any B b r _ w1 (hR.below hb1) k1 (by rw [List.length_append, Lib.strCells_length]; omega) (Nat.le_trans hB hb1.size)
    go_wp2_with (go_at_fn 86; refine IHr.mono ?_)
    rintro e w2 ⟨rfl, k2, hb2⟩
    go_wp2
    go_ret
    refine ⟨rfl, ?_, hb1.trans hb2⟩
    rw [List.append_assoc, ← strCells_append] at k2
    exact k2
set_option maxHeartbeats 1000000 in
theorem text_tree (sh : Sh) (w : World) (hA : sh.At w w.heap.size) (hl : sh.text.size ≤ 1000000000) :
    Calls Tryz.prog 45 #[sh.ptr] w fun e w' => e = .returned (.string sh.text) ∧ Below w.heap.size w w' := by
  have e86 : ∀ args w, (callFunc 86 args).run Tryz.prog w = .ok (.enter 86 args) w := enters_of Tryz.func86 (by kernel_rfl) rfl
  have e89 : ∀ args w, (callFunc 89 args).run Tryz.prog w = .ok (.enter 89 args) w := enters_of Tryz.func89 (by kernel_rfl) rfl
  have hI := Lib.fresh_isBuilder 217 5 w
  have W := walk_any w.heap.size w.heap.size sh [] _ (hA.below ((Below.refl _ _).alloc (Nat.le_refl _) _)) hI (by simpa using hl) (by simp)
  go_enter Tryz.func45, Tryz.ntmps45
  go_wp2_with (go_at_fn 86; refine W.mono ?_)
  rintro e w1 ⟨rfl, k1, hb1⟩
  rw [List.nil_append, Lib.strCells_eq] at k1
  have S := Tryz.builder_string w.heap.size w.heap.size _ w1 k1 (by have := hb1.size; simp at this; omega)
  go_wp2_with (go_at_fn 89; refine S.mono ?_)
  rintro e w2 ⟨rfl, hb2⟩
  go_wp2
  go_ret
  exact ⟨rfl, (((Below.refl _ _).alloc (Nat.le_refl _) _).trans hb1).trans hb2⟩
end Go.Proofs.YtibdcnmaodmghaaGreatDoor
end

section
namespace Go.Proofs.YtibdcnmaodmghaaGreatDoor
open Go.RowKit
set_option maxRecDepth 20000
/-- A tree of this text lies here. -/
def ShIs (t : ByteArray) (w : World) (v : Value) : Prop := ∃ s : Sh, v = s.ptr ∧ s.text = t ∧ s.At w w.heap.size
theorem ShIs.below {t : ByteArray} {w w' : World} {v : Value} (h : ShIs t w v) (hb : Below w.heap.size w w') : ShIs t w' v := by
  obtain ⟨s, h1, h2, h3⟩ := h
  exact ⟨s, h1, h2, (h3.below hb).more hb.size⟩
theorem ShIs.ptr {t : ByteArray} {w : World} {v : Value} (h : ShIs t w v) : v = .pointer none ∨ ∃ g, v = .pointer (some ⟨g, 0, none⟩) := by
  obtain ⟨s, rfl, _, _⟩ := h
  cases s with
  | nil => exact .inl rfl
  | leaf g t => exact .inr ⟨g, rfl⟩
  | inn g l r h => exact .inr ⟨g, rfl⟩
/-- inner, of two values. -/
theorem inner_is (ta tb : ByteArray) (va vb : Value) (w : World) (ha : ShIs ta w va) (hb : ShIs tb w vb) (na : 0 < ta.size) (nb : 0 < tb.size) (hsz : ta.size + tb.size ≤ 640) :
    Calls Tryz.prog 80 #[va, vb] w fun e w' => ∃ g, e = .returned (.pointer (some ⟨g, 0, none⟩)) ∧ ShIs (ta ++ tb) w' (.pointer (some ⟨g, 0, none⟩)) ∧ Below w.heap.size w w' := by
  obtain ⟨a, rfl, rfl, Aa⟩ := ha
  obtain ⟨b, rfl, rfl, Ab⟩ := hb
  have ea : a ≠ .nil := by rintro rfl; simp [Sh.text] at na
  have eb : b ≠ .nil := by rintro rfl; simp [Sh.text] at nb
  refine (inner_any a b w.heap.size w Aa Ab ea eb (Nat.le_refl _) (by omega)).mono ?_
  rintro e w' ⟨g, h, rfl, hA, hbel⟩
  have hg : g = g := rfl
  refine ⟨g, rfl, ⟨.inn g a b h, rfl, rfl, hA⟩, hbel⟩
set_option maxHeartbeats 2000000 in
theorem build_any : ∀ (m : Nat) (s : ByteArray) (w : World), s.size ≤ m → s.size ≤ 640 → Calls Tryz.prog 33 #[.string s] w fun e w' => ∃ v, e = .returned v ∧ ShIs s w' v ∧ Below w.heap.size w w'
  | m, s, w, hm, hs => by
    by_cases h64 : s.size ≤ 64
    · have d : decide ((s.size : Int) ≤ 64) = true := by simp; omega
      have hL := leaf_any s w
      go_enter Tryz.func33, Tryz.ntmps33
      go_wp2_with fail
      refine hL.mono ?_
      rintro e w1 ⟨sh, rfl, h1, h2, h3⟩
      go_wp2_with fail
      go_ret
      exact ⟨_, rfl, ⟨sh, rfl, h1, h2⟩, h3⟩
    · cases m with
      | zero => omega
      | succ m =>
        have d : decide ((s.size : Int) ≤ 64) = false := by simp; omega
        obtain ⟨k, hk⟩ : ∃ k, k = (s.size + 63) / 64 / 2 * 64 := ⟨_, rfl⟩
        have hk1 : 64 ≤ k ∧ k < s.size := by omega
        have e1 : (s.extract 0 k).size = k := by simp; omega
        have e2 : (s.extract k s.size).size = s.size - k := by simp
        have H1 := fun w => build_any m (s.extract 0 k) w (by omega) (by omega)
        have H2 := fun w => build_any m (s.extract k s.size) w (by omega) (by omega)
        have hcat : s.extract 0 k ++ s.extract k s.size = s := by
          rw [ByteArray.extract_append_extract, Nat.min_eq_left (Nat.zero_le _), Nat.max_eq_right (by omega)]
          simp
        have hq : ((s.size : Int) + 64 - 1) / 64 / 2 * 64 = (k : Int) := by omega
        have HQ := Lib.hid hq
        clear hq
        have b1 : k ≤ s.size := by omega
        go_enter Tryz.func33, Tryz.ntmps33
        go_wp2_with fail
        rw [HQ.out]
        clear HQ hk
        generalize hs1 : s.extract 0 k = s1 at *
        generalize hs2 : s.extract k s.size = s2 at *
        go_region_held3 (fun _ => True) (trivial) (first
          | (go_at_call_of 33 (Value.string s1); refine (H1 _).mono ?_; rintro e w1 ⟨v1, rfl, I1, B1⟩)
          | (go_at_call_of 33 (Value.string s2); refine (H2 _).mono ?_; rintro e w2 ⟨v2, rfl, I2, B2⟩; have I1' := I1.below B2)
          | (go_at_call 80; refine (inner_is s1 s2 v1 v2 _ I1' I2 (by omega) (by omega) (by omega)).mono ?_; rintro e w3 ⟨g, rfl, I3, B3⟩))
        all_goals
          go_wp2_with fail
          go_ret
          rw [hcat] at I3
          have B1' : Below w.heap.size w w1 := below_from_drewN (n := 1) B1
          have z1 := B1'.size
          have z2 := B2.size
          exact ⟨_, rfl, I3, (B1'.trans (B2.mono z1)).trans (B3.mono (Nat.le_trans z1 z2))⟩
set_option maxHeartbeats 2000000 in
theorem join_any (ta tb : ByteArray) (va vb : Value) (w : World) (ha : ShIs ta w va) (hb : ShIs tb w vb) (hsz : ta.size + tb.size ≤ 640) :
    Calls Tryz.prog 37 #[va, vb] w fun e w' => ∃ v, e = .returned v ∧ ShIs (ta ++ tb) w' v ∧ Below w.heap.size w w' := by
  obtain ⟨a, rfl, rfl, Aa⟩ := ha
  obtain ⟨b, rfl, rfl, Ab⟩ := hb
  by_cases na : a = .nil
  · subst na
    show Calls Tryz.prog 37 #[.pointer none, b.ptr] w _
    have HB : Hid (ShIs (Sh.nil.text ++ b.text) w b.ptr) := ⟨b, rfl, by simp [Sh.text], Ab⟩
    generalize b.ptr = vb at *
    go_enter Tryz.func37, Tryz.ntmps37
    go_wp2_with fail
    go_ret
    exact ⟨_, rfl, HB.out, Below.refl _ _⟩
  · by_cases nb : b = .nil
    · subst nb
      obtain ⟨g1, t1, p1, q1, z1, e1, l1, k1⟩ := Aa.root na
      have HB : Hid (ShIs (a.text ++ Sh.nil.text) w (.pointer (some ⟨g1, 0, none⟩))) := ⟨a, e1.symm, by simp [Sh.text], Aa⟩
      rw [e1]
      show Calls Tryz.prog 37 #[_, .pointer none] w _
      clear e1 k1
      go_enter Tryz.func37, Tryz.ntmps37
      go_wp2_with fail
      go_ret
      exact ⟨_, rfl, HB.out, Below.refl _ _⟩
    · obtain ⟨g1, t1, p1, q1, z1, e1, l1, k1⟩ := Aa.root na
      obtain ⟨g2, t2, p2, q2, z2, e2, l2, k2⟩ := Ab.root nb
      have HI := inner_any a b w.heap.size w Aa Ab na nb (Nat.le_refl _) (by omega)
      rw [e1, e2] at HI ⊢
      clear e1 e2 k1 k2 l1 l2
      go_enter Tryz.func37, Tryz.ntmps37
      go_wp2_with fail
      refine HI.mono ?_
      rintro e w1 ⟨g, h, rfl, A1, B1⟩
      have hblk := A1.2.2.2.2.2
      obtain ⟨m, hm⟩ : ∃ m, m = a.text.size + b.text.size := ⟨_, rfl⟩
      rw [← hm] at hblk
      have c3 := hblk.cell 3
      have c4 := hblk.cell 4
      simp at c3 c4
      have hts : (a.text ++ b.text).size = m := by simp [hm]
      have ht : (Sh.inn g a b h).text = a.text ++ b.text := rfl
      have HP : Hid ((Sh.inn g a b h).ptr = .pointer (some ⟨g, 0, none⟩)) := rfl
      have hm640 : m ≤ 640 := by omega
      have h1lt := A1.1
      clear hblk HI
      generalize hsh : Sh.inn g a b h = sh at *
      generalize hcat : a.text ++ b.text = t at *
      have HCAT := Lib.hid hcat
      clear hcat hsh na nb Aa Ab hsz hm
      have HA := Lib.hid A1
      have HT := Lib.hid ht
      have HTS := Lib.hid hts
      clear A1 ht hts
      have HTX : ∀ w2, Below w1.heap.size w1 w2 → Calls Tryz.prog 45 #[.pointer (some ⟨g, 0, none⟩)] w2 fun e w' => e = .returned (.string t) ∧ Below w2.heap.size w2 w' := by
        intro w2 hb
        have := text_tree sh w2 ((HA.out.below hb).more hb.size) (by rw [HT.out, HTS.out]; omega)
        rw [HP.out, HT.out] at this
        exact this
      by_cases hle : m ≤ 64
      · have d : decide ((m : Int) ≤ 64) = true := by simp; omega
        go_wp2_with fail
        go_quiet (fail)
        go_wp2_with fail
        refine (HTX _ (below_drewN (Below.refl _ _) _)).mono ?_
        rintro e w2 ⟨rfl, B2⟩
        have HBD := build_any t.size t w2 (Nat.le_refl _) (by rw [HTS.out]; exact hm640)
        go_wp2_with fail
        refine HBD.mono ?_
        rintro e w3 ⟨v, rfl, I3, B3⟩
        go_wp2_with fail
        go_ret
        have B2' : Below w1.heap.size w1 w2 := below_from_drewN B2
        exact ⟨_, rfl, by rw [HCAT.out]; exact I3, (B1.trans (B2'.mono B1.size)).trans (B3.mono (Nat.le_trans B1.size B2'.size))⟩
      · have d : decide ((m : Int) ≤ 64) = false := by simp; omega
        by_cases hh : boundV m < h
        · have d2 : decide (boundV m < h) = true := by simp [hh]
          have d2' : decide (h > boundV m) = true := d2
          go_wp2_with fail
          go_quiet ((go_at_call_of 83 (Value.int .i64 m); exact Calls.quiet_of_same (bound_any m _ hm640)))
          go_wp2_with fail
          refine (HTX _ (below_drewN (Below.refl _ _) _)).mono ?_
          rintro e w2 ⟨rfl, B2⟩
          have HBD := build_any t.size t w2 (Nat.le_refl _) (by rw [HTS.out]; exact hm640)
          go_wp2_with fail
          refine HBD.mono ?_
          rintro e w3 ⟨v, rfl, I3, B3⟩
          go_wp2_with fail
          go_ret
          have B2' : Below w1.heap.size w1 w2 := below_from_drewN B2
          exact ⟨_, rfl, by rw [HCAT.out]; exact I3, (B1.trans (B2'.mono B1.size)).trans (B3.mono (Nat.le_trans B1.size B2'.size))⟩
        · have d2 : decide (boundV m < h) = false := by simp [hh]
          have d2' : decide (h > boundV m) = false := d2
          go_wp2_with fail
          go_quiet ((go_at_call_of 83 (Value.int .i64 m); exact Calls.quiet_of_same (bound_any m _ hm640)))
          go_wp2_with fail
          go_ret
          exact ⟨_, rfl, by rw [HCAT.out]; exact ⟨sh, HP.out.symm, HT.out, HA.out.below (below_drewN (Below.refl _ _) _)⟩, below_drewN B1 _⟩
end Go.Proofs.YtibdcnmaodmghaaGreatDoor
end
