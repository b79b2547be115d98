/- The rope: replace, text, edits. -/
import Derived.Test.YtibdcnmaodmghaaGreatDoorRb
import Derived.Test.YtibdcnmaodmghaaGreatDoorEd
import Derived.Deep.RegionHeld3
section
namespace Go.Proofs.YtibdcnmaodmghaaGreatDoor
open Go.RowKit
set_option maxRecDepth 20000
theorem extract_none (s : ByteArray) {i j : Nat} (h : j ≤ i) : s.extract i j = ByteArray.empty := by
  rw [ByteArray.extract_eq_empty_iff]; omega
theorem extract_left (s t : ByteArray) {i j : Nat} (h : j ≤ s.size) : (s ++ t).extract i j = s.extract i j := by
  rw [ByteArray.extract_append, show j - s.size = 0 by omega, extract_none t (Nat.zero_le _), ByteArray.append_empty]
theorem extract_right (s t : ByteArray) {i j : Nat} (h : s.size ≤ i) : (s ++ t).extract i j = t.extract (i - s.size) (j - s.size) := by
  rw [ByteArray.extract_append, ByteArray.extract_eq_empty_iff.2 (show min j s.size ≤ i by omega), ByteArray.empty_append]
theorem extract_beyond (s : ByteArray) {i j : Nat} (h : s.size ≤ j) : s.extract i j = s.extract i s.size := by
  apply ByteArray.ext
  rw [ByteArray.data_extract, ByteArray.data_extract]
  apply Array.ext
  · simp [Array.size_extract]
    have : s.data.size = s.size := rfl
    omega
  · intro k h1 h2
    simp [Array.getElem_extract]
theorem extract_cross (s t : ByteArray) {i j : Nat} (h : i ≤ s.size) (h2 : s.size ≤ j) : (s ++ t).extract i j = s.extract i s.size ++ t.extract 0 (j - s.size) := by
  rw [ByteArray.extract_append, show i - s.size = 0 by omega, extract_beyond s h2]
set_option maxHeartbeats 4000000 in
theorem slice_tree : ∀ (sh : Sh) (i j B : Nat) (w : World), sh.At w B → B ≤ w.heap.size → j ≤ sh.text.size → sh.text.size ≤ 640 →
    Calls Tryz.prog 38 #[sh.ptr, .int .i64 i, .int .i64 j] w (RetIs (sh.text.extract i j) w)
  | sh, i, j, B, w, hA, hB, hj, hs => by
    by_cases hij : j ≤ i
    · have d : decide ((j : Int) ≤ (i : Int)) = true := by simp; omega
      have d' : decide ((i : Int) ≥ (j : Int)) = true := d
      have H0 : Hid (ShIs (sh.text.extract i j) w (.pointer none)) := ⟨.nil, rfl, (extract_none _ hij).symm, trivial⟩
      generalize sh.ptr = p
      go_enter Tryz.func38, Tryz.ntmps38
      go_wp2_with fail
      go_ret
      exact ⟨_, rfl, H0.out, Below.refl _ _⟩
    · have d : decide ((j : Int) ≤ (i : Int)) = false := by simp; omega
      have d' : decide ((i : Int) ≥ (j : Int)) = false := d
      have nn : sh ≠ .nil := by rintro rfl; simp [Sh.text] at hj; omega
      obtain ⟨g, t, p, q, z, e1, l1, k1⟩ := hA.root nn
      have c3 := k1.cell 3
      simp at c3
      by_cases hall : i = 0 ∧ j = sh.text.size
      · obtain ⟨rfl, hjn⟩ := hall
        rw [← hjn] at c3
        have H0 : Hid (ShIs (sh.text.extract 0 j) w (.pointer (some ⟨g, 0, none⟩))) := ⟨sh, e1.symm, by rw [hjn]; exact ByteArray.extract_zero_size.symm, hA.more hB⟩
        rw [e1]
        clear e1 k1 hjn hj hs
        have z0 : (((0 : Nat) : Int) == 0) = true := rfl
        go_enter Tryz.func38, Tryz.ntmps38
        go_wp2_with fail
        go_ret
        exact ⟨_, rfl, H0.out, Below.refl _ _⟩
      · have hgd : (i = 0 ∧ ((i : Int) == 0) = true ∧ ((j : Int) == (sh.text.size : Int)) = false ∧ ¬ j = sh.text.size) ∨ (¬ i = 0 ∧ ((i : Int) == 0) = false) := by
          by_cases h0 : i = 0
          · left
            have : ¬ j = sh.text.size := fun e => hall ⟨h0, e⟩
            refine ⟨h0, by simp [h0], ?_, this⟩
            rw [beq_eq_false_iff_ne]
            omega
          · right
            refine ⟨h0, ?_⟩
            rw [beq_eq_false_iff_ne]
            omega
        clear hall
        cases sh with
        | nil => exact absurd rfl nn
        | leaf g' t' =>
          obtain ⟨h1, h2, h3⟩ := hA
          have c0 := h3.cell 0
          have c1 := h3.cell 1
          have c3 := h3.cell 3
          simp at c0 c1 c3
          have hL := leaf_any (t'.extract i j)
          change j ≤ t'.size at hj
          change t'.size ≤ 640 at hs
          change _ ∨ _ at hgd
          have b1 : i ≤ j := by omega
          show Calls Tryz.prog 38 #[.pointer (some ⟨g', 0, none⟩), _, _] w (RetIs (t'.extract i j) w)
          clear h3 e1 k1 nn
          rcases hgd with ⟨h5, h6, h7, h8⟩ | ⟨h5, h6⟩
          · change ((j : Int) == (t'.size : Int)) = false at h7
            change ¬ j = t'.size at h8
            subst h5
            go_enter Tryz.func38, Tryz.ntmps38
            go_wp2_with fail
            refine (hL _).mono ?_
            rintro e w1 ⟨sh, rfl, h1, h2, h3⟩
            go_wp2_with fail
            go_ret
            exact ⟨_, rfl, ⟨sh, rfl, h1, h2⟩, h3⟩
          · go_enter Tryz.func38, Tryz.ntmps38
            go_wp2_with fail
            refine (hL _).mono ?_
            rintro e w1 ⟨sh, rfl, h1, h2, h3⟩
            go_wp2_with fail
            go_ret
            exact ⟨_, rfl, ⟨sh, rfl, h1, h2⟩, h3⟩
        | inn g' l r h =>
          clear c3
          obtain ⟨h1, nl, nr, hL, hR, h3⟩ := hA
          obtain ⟨gl, tl, pl, ql, zl, el, ll, kl⟩ := hL.root nl
          obtain ⟨gr, tr, pr, qr, zr, er, lr, kr⟩ := hR.root nr
          have pl0 := hL.pos nl
          have pr0 := hR.pos nr
          have c1 := h3.cell 1
          have c2 := h3.cell 2
          have c3 := h3.cell 3
          have cl := kl.cell 3
          simp only [el, er] at c1 c2
          simp at c1 c2 c3 cl
          rw [Sh.text_inn] at hj hs hgd
          have IL := fun (i j : Nat) (w' : World) (hb : Below w.heap.size w w') (hh : j ≤ l.text.size) => slice_tree l i j w.heap.size w' ((hL.more hB).below hb) hb.size hh (by omega)
          have IR := fun (i j : Nat) (w' : World) (hb : Below w.heap.size w w') (hh : j ≤ r.text.size) => slice_tree r i j w.heap.size w' ((hR.more hB).below hb) hb.size hh (by omega)
          rw [el] at IL
          rw [er] at IR
          have hglt : g' < w.heap.size := by omega
          show Calls Tryz.prog 38 #[.pointer (some ⟨g', 0, none⟩), _, _] w (RetIs ((l.text ++ r.text).extract i j) w)
          have X1 := extract_left l.text r.text (i := i) (j := j)
          have X2 := extract_right l.text r.text (i := i) (j := j)
          have X3 := extract_cross l.text r.text (i := i) (j := j)
          have hj2 : j - l.text.size ≤ r.text.size := by omega
          have hsz := hs
          generalize l.text = lt at *
          generalize r.text = rt at *
          generalize hm : lt.size = m at *
          generalize hrn : rt.size = rn at *
          clear h3 e1 k1 nn kl kr el er hL hR
          have HM := Lib.hid hm
          have HRN := Lib.hid hrn
          clear hm hrn
          generalize hW : (lt ++ rt).extract i j = out at *
          have hg2 : ∀ (P : Prop), (((i : Int) == 0) = true → ((j : Int) == ((m : Int) + (rn : Int))) = false → P) → (((i : Int) == 0) = false → P) → P := by
            intro P p1 p2
            rcases hgd with ⟨_, q1, q2, _⟩ | ⟨_, q1⟩
            · exact p1 q1 (by rw [← Int.natCast_add]; exact q2)
            · exact p2 q1
          clear hgd
          by_cases hjm : j ≤ m
          · have d1 : decide ((j : Int) ≤ (m : Int)) = true := by simp; omega
            have HC := IL i j w (Below.refl _ _) hjm
            rw [← X1 hjm] at HC
            have HC := Lib.hid HC
            clear IL IR X1 X2 X3
            apply hg2
            · intro q1 q2
              go_enter Tryz.func38, Tryz.ntmps38
              go_wp2_with fail
              refine HC.out.mono ?_
              rintro e w1 ⟨v, rfl, I1, B1⟩
              go_wp2_with fail
              go_ret
              exact ⟨_, rfl, I1, B1⟩
            · intro q1
              go_enter Tryz.func38, Tryz.ntmps38
              go_wp2_with fail
              refine HC.out.mono ?_
              rintro e w1 ⟨v, rfl, I1, B1⟩
              go_wp2_with fail
              go_ret
              exact ⟨_, rfl, I1, B1⟩
          · have d1 : decide ((j : Int) ≤ (m : Int)) = false := by simp; omega
            clear X1
            by_cases him : m ≤ i
            · have d2 : decide ((m : Int) ≤ (i : Int)) = true := by simp; omega
              have d2' : decide ((i : Int) ≥ (m : Int)) = true := d2
              have HC := IR (i - m) (j - m) w (Below.refl _ _) hj2
              rw [← X2 him, show ((i - m : Nat) : Int) = (i : Int) - (m : Int) by omega, show ((j - m : Nat) : Int) = (j : Int) - (m : Int) by omega] at HC
              have HC := Lib.hid HC
              clear IL IR X2 X3
              apply hg2
              · intro q1 q2
                go_enter Tryz.func38, Tryz.ntmps38
                go_wp2_with fail
                refine HC.out.mono ?_
                rintro e w1 ⟨v, rfl, I1, B1⟩
                go_wp2_with fail
                go_ret
                exact ⟨_, rfl, I1, B1⟩
              · intro q1
                go_enter Tryz.func38, Tryz.ntmps38
                go_wp2_with fail
                refine HC.out.mono ?_
                rintro e w1 ⟨v, rfl, I1, B1⟩
                go_wp2_with fail
                go_ret
                exact ⟨_, rfl, I1, B1⟩
            · have d2 : decide ((m : Int) ≤ (i : Int)) = false := by simp; omega
              have d2' : decide ((i : Int) ≥ (m : Int)) = false := d2
              have HL := Lib.hid (fun w' hb => IL i m w' hb (Nat.le_refl m))
              have IR0 : ∀ w', Below w.heap.size w w' → Calls Tryz.prog 38 #[.pointer (some ⟨gr, 0, none⟩), .int .i64 0, .int .i64 ((j : Int) - (m : Int))] w' (RetIs (rt.extract 0 (j - m)) w') := by
                intro w' hb
                have := IR 0 (j - m) w' hb hj2
                rw [show ((j - m : Nat) : Int) = (j : Int) - (m : Int) by omega] at this
                exact this
              have HR := Lib.hid IR0
              have HK : Hid (∀ w', Below w.heap.size w w' → w'.cell? ⟨g', 1, none⟩ = some (.pointer (some ⟨gl, 0, none⟩)) ∧ w'.cell? ⟨g', 2, none⟩ = some (.pointer (some ⟨gr, 0, none⟩))) := fun w' hb => ⟨(hb.cell (p := ⟨g', 1, none⟩) hglt).trans c1, (hb.cell (p := ⟨g', 2, none⟩) hglt).trans c2⟩
              have HX := Lib.hid (X3 (by omega) (by omega))
              have hz1 : (lt.extract i m).size + (rt.extract 0 (j - m)).size ≤ 640 := by rw [ByteArray.size_extract, ByteArray.size_extract, HM.out, HRN.out]; omega
              clear IL IR IR0 X2 X3
              generalize lt.extract i m = t1 at *
              generalize rt.extract 0 (j - m) = t2 at *
              apply hg2
              · intro q1 q2
                exact slice_mid1 g' gl gr i j m rn out t1 t2 w hij d d' hjm him d1 d2 d2' q1 q2 c1 c2 c3 cl hsz hj hz1 HK HL HR HX
              · intro q1
                exact slice_mid2 g' gl gr i j m rn out t1 t2 w hij d d' hjm him d1 d2 d2' q1 c1 c2 c3 cl hsz hj hz1 HK HL HR HX
termination_by sh => SizeOf.sizeOf sh
end Go.Proofs.YtibdcnmaodmghaaGreatDoor
end

section
namespace Go.Proofs.YtibdcnmaodmghaaGreatDoor
open Go.RowKit
set_option maxRecDepth 20000
theorem results_rope {fn : Func} {p : Tmp} (h : fn.results = #[.cell p 37]) {tmps : Array Value} {b o : Nat} (hp : tmps.getD p undef = .pointer (some ⟨b, o, none⟩)) {w : World} {x : Value}
    (h0 : w.cell? ⟨b, o, none⟩ = some x) : (results fn tmps).run Tryz.prog w = .ok (.agg #[x]) w := by
  rw [results_cell h tmps _ hp]
  simp [go_sem, h0]
theorem ShIs.nil' (w : World) : ShIs ⟨#[]⟩ w (.pointer none) := ⟨.nil, rfl, rfl, trivial⟩
/-- The nodes stand. -/
def Keep209 (w w' : World) : Prop := w.heap.size ≤ w'.heap.size ∧ ∀ g cs, Blk w g 209 cs → Blk w' g 209 cs
theorem Sh.At.keep {w w' : World} {B : Nat} (hk : Keep209 w w') : ∀ {s : Sh}, s.At w B → s.At w' B
  | .nil, _ => trivial
  | .leaf _ _, ⟨h1, h2, h3⟩ => ⟨h1, h2, hk.2 _ _ h3⟩
  | .inn _ _ _ _, ⟨h1, h2, h3, h4, h5, h6⟩ => ⟨h1, h2, h3, h4.keep hk, h5.keep hk, hk.2 _ _ h6⟩
theorem ShIs.keep {t : ByteArray} {w w' : World} {v : Value} (h : ShIs t w v) (hk : Keep209 w w') : ShIs t w' v := by
  obtain ⟨s, h1, h2, h3⟩ := h
  exact ⟨s, h1, h2, (h3.keep hk).more hk.1⟩
theorem Keep209.set {w : World} {N i : Nat} {T : TypeId} {cs : Array Value} (h : Blk w N T cs) (hT : T ≠ 209) (u : Value) : Keep209 w (w.setCell ⟨N, i, none⟩ u) :=
  ⟨by simp, fun g _ hg => hg.far (p := ⟨N, i, none⟩) (fun e => hT (by
    simp only at e
    subst e
    by_cases hne : T = 209
    · exact hne
    · exact absurd rfl (h.ne_ hg hne))) u⟩
theorem Keep209.below {w w' : World} (h : Below w.heap.size w w') : Keep209 w w' := ⟨h.size, fun _ _ hg => hg.below h hg.lt⟩
theorem Keep209.trans {w w1 w2 : World} (h : Keep209 w w1) (k : Keep209 w1 w2) : Keep209 w w2 := ⟨Nat.le_trans h.1 k.1, fun g cs hg => k.2 g cs (h.2 g cs hg)⟩
set_option maxHeartbeats 1000000 in
theorem ropeNew_any (s : ByteArray) (w : World) (hs : s.size ≤ 640) : Calls Tryz.prog 9 #[.string s] w fun e w' => ∃ v, e = .returned (.agg #[v]) ∧ ShIs s w' v ∧ Below w.heap.size w w' := by
  have HB := fun w => build_any s.size s w (Nat.le_refl _) hs
  have K0 := Blk.new' w 37 #[.pointer none] rfl
  go_enter Tryz.func9, Tryz.ntmps9
  go_wp2_with fail
  refine (HB _).mono ?_
  rintro e w1 ⟨v, rfl, I1, B1⟩
  have K1 := K0.below B1 (by simp)
  have c0 := K1.cell 0
  have f0 := K1.frozen 0
  simp at c0
  have hbl : ∀ u, Below w.heap.size w (w1.setCell ⟨w.heap.size, 0, none⟩ u) := fun u => (((Below.refl _ _).alloc (Nat.le_refl _) _).trans (B1.mono (by simp))).setCell (by simp) _
  rcases I1.ptr with rfl | ⟨g, rfl⟩
  · have K2 : (w1.setCell ⟨w.heap.size, 0, none⟩ (.pointer none)).cell? ⟨w.heap.size, 0, none⟩ = some (.pointer none) := (K1.set_ 0 _).cell 0
    go_wp2_with fail
    exact bodyPost_ret (results_rope rfl rfl K2) rfl ⟨_, rfl, I1.keep (Keep209.set (i := 0) K1 (by decide) _), hbl _⟩
  · have K2 : (w1.setCell ⟨w.heap.size, 0, none⟩ (.pointer (some ⟨g, 0, none⟩))).cell? ⟨w.heap.size, 0, none⟩ = some (.pointer (some ⟨g, 0, none⟩)) := (K1.set_ 0 _).cell 0
    go_wp2_with fail
    exact bodyPost_ret (results_rope rfl rfl K2) rfl ⟨_, rfl, I1.keep (Keep209.set (i := 0) K1 (by decide) _), hbl _⟩
set_option maxHeartbeats 1000000 in
theorem ropeLen_any (t : ByteArray) (v : Value) (w : World) (hv : ShIs t w v) : Calls Tryz.prog 36 #[.agg #[v]] w fun e w' => e = .returned (.int .i64 (t.size : Int)) ∧ Below w.heap.size w w' := by
  obtain ⟨s, rfl, rfl, hA⟩ := hv
  by_cases hn : s = .nil
  · subst hn
    show Calls Tryz.prog 36 #[.agg #[.pointer none]] w _
    go_enter Tryz.func36, Tryz.ntmps36
    go_wp2_with fail
    go_ret
    exact ⟨rfl, (Below.refl _ _).alloc (Nat.le_refl _) _⟩
  · obtain ⟨g, t, p, q, z, e1, l1, k1⟩ := hA.root hn
    have c3 := (k1.alloc (.cells #[.pointer (some ⟨g, 0, none⟩)] 37)).cell 3
    simp at c3
    rw [e1]
    clear e1 k1
    go_enter Tryz.func36, Tryz.ntmps36
    go_wp2_with fail
    go_ret
    exact ⟨rfl, (Below.refl _ _).alloc (Nat.le_refl _) _⟩
set_option maxHeartbeats 1000000 in
theorem ropeString_any (t : ByteArray) (v : Value) (w : World) (hv : ShIs t w v) (ht : t.size ≤ 640) : Calls Tryz.prog 16 #[.agg #[v]] w fun e w' => e = .returned (.string t) ∧ Below w.heap.size w w' := by
  obtain ⟨s, rfl, rfl, hA⟩ := hv
  have hb : Below w.heap.size w (w.alloc (.cells #[s.ptr] 37)) := (Below.refl _ _).alloc (Nat.le_refl _) _
  have HT := text_tree s (w.alloc (.cells #[s.ptr] 37)) ((hA.below hb).more hb.size) (by omega)
  generalize s.ptr = p at *
  go_enter Tryz.func16, Tryz.ntmps16
  go_wp2_with fail
  refine HT.mono ?_
  rintro e w1 ⟨rfl, B1⟩
  go_wp2_with fail
  go_ret
  exact ⟨rfl, hb.trans (B1.mono hb.size)⟩
end Go.Proofs.YtibdcnmaodmghaaGreatDoor
end

section
namespace Go.Proofs.YtibdcnmaodmghaaGreatDoor
open Go.RowKit
set_option maxRecDepth 20000
theorem results_rope2 {fn : Func} {p q : Tmp} (h : fn.results = #[.cell p 37, .tmp q]) {tmps : Array Value} {b o : Nat} (hp : tmps.getD p undef = .pointer (some ⟨b, o, none⟩)) {w : World} {x y : Value}
    (hq : tmps.getD q undef = y) (h0 : w.cell? ⟨b, o, none⟩ = some x) : (results fn tmps).run Tryz.prog w = .ok (.tuple #[.agg #[x], y]) w := by
  have hp' : tmps[p]?.getD undef = .pointer (some ⟨b, o, none⟩) := by rw [← hp]; simp
  have hq' : tmps[q]?.getD undef = y := by rw [← hq]; simp
  simp [results, h, hp', hq', asAddr, go_sem, h0]
set_option maxHeartbeats 2000000 in
theorem ropeReplace_no (t : ByteArray) (v : Value) (a b : Int) (x : ByteArray) (w : World) (hv : ShIs t w v) (ht : t.size ≤ 640) (hok : Ed.ok t.size ⟨a, b, x⟩ = false) :
    Calls Tryz.prog 13 #[.agg #[v], .agg #[.int .i64 a, .int .i64 b, .string x]] w fun e w' => e = .returned (.tuple #[.agg #[.pointer none], .int .i64 2]) ∧ Below w.heap.size w w' := by
  have hb : Below w.heap.size w (((w.alloc (.cells #[v] 37)).alloc (.cells #[.int .i64 a, .int .i64 b, .string x] 44)).alloc (.cells #[.pointer none] 37)) := (((Below.refl _ _).alloc (Nat.le_refl _) _).alloc (by simp) _).alloc (by simp; omega) _
  have HL := ropeLen_any t v _ (hv.keep (Keep209.below hb))
  have KE : Blk (((w.alloc (.cells #[v] 37)).alloc (.cells #[.int .i64 a, .int .i64 b, .string x] 44)).alloc (.cells #[.pointer none] 37)) (w.heap.size + 1) 44 #[.int .i64 a, .int .i64 b, .string x] := (Blk.new' _ _ _ (by simp)).alloc _
  have KR : Blk (((w.alloc (.cells #[v] 37)).alloc (.cells #[.int .i64 a, .int .i64 b, .string x] 44)).alloc (.cells #[.pointer none] 37)) (w.heap.size + 1 + 1) 37 #[.pointer none] := Blk.new' _ _ _ (by simp)
  generalize hn : t.size = n at *
  clear hn
  rcases hv.ptr with rfl | ⟨g, rfl⟩
  · go_enter Tryz.func13, Tryz.ntmps13
    go_wp2_with fail
    refine HL.mono ?_
    rintro e w1 ⟨rfl, B1⟩
    have KE1 := KE.below B1 (by simp)
    have KR1 := KR.below B1 (by simp)
    have e0 := KE1.cell 0
    have e1 := KE1.cell 1
    have r0 := KR1.cell 0
    have f0 := KR1.frozen 0
    simp at e0 e1 r0
    have hb1 : Below w.heap.size w w1 := hb.trans (B1.mono hb.size)
    have K2 : (w1.setCell ⟨w.heap.size + 1 + 1, 0, none⟩ (.pointer none)).cell? ⟨w.heap.size + 1 + 1, 0, none⟩ = some (.pointer none) := (KR1.set_ 0 _).cell 0
    clear HL KE KR KE1
    by_cases h1 : a < 0
    · have t1 : decide (a < 0) = true := by simp [h1]
      go_wp2_with fail
      exact bodyPost_ret (results_rope2 rfl rfl rfl K2) rfl ⟨rfl, hb1.setCell (by simp; omega) _⟩
    have t1 : decide (a < 0) = false := by simp; omega
    by_cases h2 : b < 0
    · have t2 : decide (b < 0) = true := by simp [h2]
      go_wp2_with fail
      exact bodyPost_ret (results_rope2 rfl rfl rfl K2) rfl ⟨rfl, hb1.setCell (by simp; omega) _⟩
    have t2 : decide (b < 0) = false := by simp; omega
    by_cases h3 : a ≤ n
    · have h4 : ¬ b ≤ n - a := fun h4 => by
        have := (Ed.ok_iff (n := n) (e := ⟨a, b, x⟩)).2 ⟨by show 0 ≤ a; omega, by show 0 ≤ b; omega, h3, h4⟩
        rw [this] at hok
        cases hok
      have t3 : decide (a > (n : Int)) = false := by simp; omega
      have t3' : decide ((n : Int) < a) = false := t3
      have wr : IntKind.i64.wrap ((n : Int) - a) = (n : Int) - a := IntWalk.i64_in _ (by omega)
      have t4 : decide (b > (n : Int) - a) = true := by simp; omega
      have t4' : decide ((n : Int) - a < b) = true := t4
      go_wp2_with fail
      exact bodyPost_ret (results_rope2 rfl rfl rfl K2) rfl ⟨rfl, hb1.setCell (by simp; omega) _⟩
    · have t3 : decide (a > (n : Int)) = true := by simp; omega
      have t3' : decide ((n : Int) < a) = true := t3
      go_wp2_with fail
      exact bodyPost_ret (results_rope2 rfl rfl rfl K2) rfl ⟨rfl, hb1.setCell (by simp; omega) _⟩
  · go_enter Tryz.func13, Tryz.ntmps13
    go_wp2_with fail
    refine HL.mono ?_
    rintro e w1 ⟨rfl, B1⟩
    have KE1 := KE.below B1 (by simp)
    have KR1 := KR.below B1 (by simp)
    have e0 := KE1.cell 0
    have e1 := KE1.cell 1
    have r0 := KR1.cell 0
    have f0 := KR1.frozen 0
    simp at e0 e1 r0
    have hb1 : Below w.heap.size w w1 := hb.trans (B1.mono hb.size)
    have K2 : (w1.setCell ⟨w.heap.size + 1 + 1, 0, none⟩ (.pointer none)).cell? ⟨w.heap.size + 1 + 1, 0, none⟩ = some (.pointer none) := (KR1.set_ 0 _).cell 0
    clear HL KE KR KE1
    by_cases h1 : a < 0
    · have t1 : decide (a < 0) = true := by simp [h1]
      go_wp2_with fail
      exact bodyPost_ret (results_rope2 rfl rfl rfl K2) rfl ⟨rfl, hb1.setCell (by simp; omega) _⟩
    have t1 : decide (a < 0) = false := by simp; omega
    by_cases h2 : b < 0
    · have t2 : decide (b < 0) = true := by simp [h2]
      go_wp2_with fail
      exact bodyPost_ret (results_rope2 rfl rfl rfl K2) rfl ⟨rfl, hb1.setCell (by simp; omega) _⟩
    have t2 : decide (b < 0) = false := by simp; omega
    by_cases h3 : a ≤ n
    · have h4 : ¬ b ≤ n - a := fun h4 => by
        have := (Ed.ok_iff (n := n) (e := ⟨a, b, x⟩)).2 ⟨by show 0 ≤ a; omega, by show 0 ≤ b; omega, h3, h4⟩
        rw [this] at hok
        cases hok
      have t3 : decide (a > (n : Int)) = false := by simp; omega
      have t3' : decide ((n : Int) < a) = false := t3
      have wr : IntKind.i64.wrap ((n : Int) - a) = (n : Int) - a := IntWalk.i64_in _ (by omega)
      have t4 : decide (b > (n : Int) - a) = true := by simp; omega
      have t4' : decide ((n : Int) - a < b) = true := t4
      go_wp2_with fail
      exact bodyPost_ret (results_rope2 rfl rfl rfl K2) rfl ⟨rfl, hb1.setCell (by simp; omega) _⟩
    · have t3 : decide (a > (n : Int)) = true := by simp; omega
      have t3' : decide ((n : Int) < a) = true := t3
      go_wp2_with fail
      exact bodyPost_ret (results_rope2 rfl rfl rfl K2) rfl ⟨rfl, hb1.setCell (by simp; omega) _⟩
end Go.Proofs.YtibdcnmaodmghaaGreatDoor
end

section
namespace Go.Proofs.YtibdcnmaodmghaaGreatDoor
open Go.RowKit
set_option maxRecDepth 20000
theorem slice_is (t : ByteArray) (v : Value) (w : World) (hv : ShIs t w v) (i j : Nat) (hj : j ≤ t.size) (ht : t.size ≤ 640) : Calls Tryz.prog 38 #[v, .int .i64 i, .int .i64 j] w (RetIs (t.extract i j) w) := by
  obtain ⟨s, rfl, rfl, hA⟩ := hv
  exact slice_tree s i j w.heap.size w hA (Nat.le_refl _) hj ht
set_option maxHeartbeats 4000000 in
theorem ropeReplace_yes (t : ByteArray) (v : Value) (i j : Nat) (x : ByteArray) (w : World) (hv : ShIs t w v) (ht : t.size + x.size ≤ 640) (hij : i + j ≤ t.size) :
    Calls Tryz.prog 13 #[.agg #[v], .agg #[.int .i64 i, .int .i64 j, .string x]] w fun e w' => ∃ v', e = .returned (.tuple #[.agg #[v'], .int .i64 0]) ∧ ShIs (t.extract 0 i ++ x ++ t.extract (i + j) t.size) w' v' ∧ Below w.heap.size w w' := by
  have hb : Below w.heap.size w (((w.alloc (.cells #[v] 37)).alloc (.cells #[.int .i64 i, .int .i64 j, .string x] 44)).alloc (.cells #[.pointer none] 37)) := (((Below.refl _ _).alloc (Nat.le_refl _) _).alloc (by simp) _).alloc (by simp; omega) _
  have hv3 := hv.keep (Keep209.below hb)
  have HL := ropeLen_any t v _ hv3
  have KV : Blk (((w.alloc (.cells #[v] 37)).alloc (.cells #[.int .i64 i, .int .i64 j, .string x] 44)).alloc (.cells #[.pointer none] 37)) w.heap.size 37 #[v] := ((Blk.new' _ _ _ rfl).alloc _).alloc _
  have KE : Blk (((w.alloc (.cells #[v] 37)).alloc (.cells #[.int .i64 i, .int .i64 j, .string x] 44)).alloc (.cells #[.pointer none] 37)) (w.heap.size + 1) 44 #[.int .i64 i, .int .i64 j, .string x] := (Blk.new' _ _ _ (by simp)).alloc _
  have KR : Blk (((w.alloc (.cells #[v] 37)).alloc (.cells #[.int .i64 i, .int .i64 j, .string x] 44)).alloc (.cells #[.pointer none] 37)) (w.heap.size + 1 + 1) 37 #[.pointer none] := Blk.new' _ _ _ (by simp)
  have hz3 : (((w.alloc (.cells #[v] 37)).alloc (.cells #[.int .i64 i, .int .i64 j, .string x] 44)).alloc (.cells #[.pointer none] 37)).heap.size = w.heap.size + 1 + 1 + 1 := by simp
  rcases hv.ptr with rfl | ⟨g, rfl⟩
  · go_enter Tryz.func13, Tryz.ntmps13
    go_wp2_with fail
    refine HL.mono ?_
    rintro e w1 ⟨rfl, B1⟩
    have hz1 := B1.size
    rw [hz3] at hz1
    have K0 : Hid (∀ w', Below w1.heap.size w1 w' → w'.cell? ⟨w.heap.size, 0, none⟩ = some (.pointer none) ∧ w'.cell? ⟨w.heap.size + 1, 0, none⟩ = some (.int .i64 (i : Int)) ∧ w'.cell? ⟨w.heap.size + 1, 1, none⟩ = some (.int .i64 (j : Int)) ∧ w'.cell? ⟨w.heap.size + 1, 2, none⟩ = some (.string x)) := by
      intro w' hb'
      have a1 := (KV.below B1 (by simp; omega)).below hb' (by omega)
      have a2 := (KE.below B1 (by simp)).below hb' (by omega)
      exact ⟨a1.cell 0, a2.cell 0, a2.cell 1, a2.cell 2⟩
    have KR1 := KR.below B1 (by simp)
    have hb1 : Below w.heap.size w w1 := hb.trans (B1.mono hb.size)
    have hv1 := hv3.below B1
    clear HL KV KE KR hv3 hb B1 hz3 hv
    have HKR := Lib.hid KR1
    have HS : Hid (∀ w', Below w1.heap.size w1 w' → Calls Tryz.prog 38 #[.pointer none, .int .i64 0, .int .i64 (i : Int)] w' (RetIs (t.extract 0 i) w')) := fun w' hb' => slice_is t _ w' (hv1.below hb') 0 i (by omega) (by omega)
    have HS2 : Hid (∀ w', Below w1.heap.size w1 w' → Calls Tryz.prog 38 #[.pointer none, .int .i64 ((i : Int) + (j : Int)), .int .i64 (t.size : Int)] w' (RetIs (t.extract (i + j) t.size) w')) := fun w' hb' => by rw [← Int.natCast_add]; exact slice_is t _ w' (hv1.below hb') (i + j) t.size (Nat.le_refl _) (by omega)
    have z1 : (t.extract 0 i).size + x.size ≤ 640 := by rw [ByteArray.size_extract]; omega
    have z2 : (t.extract 0 i ++ x).size + (t.extract (i + j) t.size).size ≤ 640 := by rw [ByteArray.size_append, ByteArray.size_extract, ByteArray.size_extract]; omega
    have hx : x.size ≤ 640 := by omega
    have c1 := K0.out w1 (Below.refl _ _)
    obtain ⟨x0, x1, x2, x3⟩ := c1
    have t1 : decide ((i : Int) < 0) = false := by simp
    have t2 : decide ((j : Int) < 0) = false := by simp
    have t3 : decide ((i : Int) > (t.size : Int)) = false := by simp; omega
    have t3' : decide ((t.size : Int) < (i : Int)) = false := t3
    have wr : IntKind.i64.wrap ((t.size : Int) - (i : Int)) = (t.size : Int) - (i : Int) := IntWalk.i64_in _ (by omega)
    have t4 : decide ((j : Int) > (t.size : Int) - (i : Int)) = false := by simp; omega
    have t4' : decide ((t.size : Int) - (i : Int) < (j : Int)) = false := t4
    clear hv1 KR1
    go_wp2_with fail
    clear x0 x1 x2 x3 t1 t2 t3 t3' t4 t4' wr
    generalize hs1 : t.extract 0 i = s1 at *
    generalize hs2 : t.extract (i + j) t.size = s2 at *
    have HQ1 := Lib.hid hs1
    have HQ2 := Lib.hid hs2
    clear hs1 hs2
    have hz0 : ∀ w', Below w1.heap.size w1 w' → w.heap.size + 1 + 1 < w'.heap.size := fun w' hb' => by have := hb'.size; omega
    go_region_held3 (fun w' => w'.cell? ⟨w.heap.size, 0, none⟩ = some (.pointer none) ∧ w'.cell? ⟨w.heap.size + 1, 0, none⟩ = some (.int .i64 (i : Int)) ∧ w'.cell? ⟨w.heap.size + 1, 1, none⟩ = some (.int .i64 (j : Int)) ∧ w'.cell? ⟨w.heap.size + 1, 2, none⟩ = some (.string x))
      (first | exact K0.out _ Y3 | exact K0.out _ Y2 | exact K0.out _ Y1 | exact K0.out _ ((Below.refl _ _).drew))
      (first
        | (go_at_call 38; refine (HS.out _ ((Below.refl _ _).drew)).mono ?_; rintro e w2 ⟨v1, rfl, I1, B2⟩; have Y1 : Below w1.heap.size w1 w2 := ((Below.refl _ w1).drew).trans B2)
        | (go_at_call 33; refine (build_any x.size x _ (Nat.le_refl _) hx).mono ?_; rintro e w3 ⟨v2, rfl, I2, B3⟩; have Y2 : Below w1.heap.size w1 w3 := Y1.trans (B3.mono Y1.size); have I1' := I1.below B3)
        | (go_at_call 37; refine (join_any s1 x v1 v2 _ I1' I2 z1).mono ?_; rintro e w4 ⟨v3, rfl, I3, B4⟩; have Y3 : Below w1.heap.size w1 w4 := Y2.trans (B4.mono Y2.size)))
    all_goals
      rename_i hH
      clear hH
      obtain ⟨x0, x1, x2, x3⟩ := K0.out _ Y3
      have wr : IntKind.i64.wrap ((i : Int) + (j : Int)) = (i : Int) + (j : Int) := IntWalk.i64_in _ (by omega)
      go_wp2_with fail
      refine (HS2.out _ Y3).mono ?_
      rintro e w5 ⟨v4, rfl, I4, B5⟩
      have Y4 : Below w1.heap.size w1 w5 := Y3.trans (B5.mono Y3.size)
      have I3' := I3.below B5
      go_wp2_with fail
      refine (join_any _ _ v3 v4 _ I3' I4 z2).mono ?_
      rintro e w6 ⟨v5, rfl, I5, B6⟩
      have Y5 : Below w1.heap.size w1 w6 := Y4.trans (B6.mono Y4.size)
      have KR6 := HKR.out.below Y5 (by omega)
      have r0 := KR6.cell 0
      have f0 := KR6.frozen 0
      simp at r0
      rcases I5.ptr with rfl | ⟨g6, rfl⟩
      · have K2 : (w6.setCell ⟨w.heap.size + 1 + 1, 0, none⟩ (.pointer none)).cell? ⟨w.heap.size + 1 + 1, 0, none⟩ = some (.pointer none) := (KR6.set_ 0 _).cell 0
        go_wp2_with fail
        exact bodyPost_ret (results_rope2 rfl rfl rfl K2) rfl ⟨_, rfl, by rw [HQ1.out, HQ2.out]; exact I5.keep (Keep209.set (i := 0) KR6 (by decide) _), (hb1.trans (Y5.mono hb1.size)).setCell (by simp; omega) _⟩
      · have K2 : (w6.setCell ⟨w.heap.size + 1 + 1, 0, none⟩ (.pointer (some ⟨g6, 0, none⟩))).cell? ⟨w.heap.size + 1 + 1, 0, none⟩ = some (.pointer (some ⟨g6, 0, none⟩)) := (KR6.set_ 0 _).cell 0
        go_wp2_with fail
        exact bodyPost_ret (results_rope2 rfl rfl rfl K2) rfl ⟨_, rfl, by rw [HQ1.out, HQ2.out]; exact I5.keep (Keep209.set (i := 0) KR6 (by decide) _), (hb1.trans (Y5.mono hb1.size)).setCell (by simp; omega) _⟩
  · go_enter Tryz.func13, Tryz.ntmps13
    go_wp2_with fail
    refine HL.mono ?_
    rintro e w1 ⟨rfl, B1⟩
    have hz1 := B1.size
    rw [hz3] at hz1
    have K0 : Hid (∀ w', Below w1.heap.size w1 w' → w'.cell? ⟨w.heap.size, 0, none⟩ = some (.pointer (some ⟨g, 0, none⟩)) ∧ w'.cell? ⟨w.heap.size + 1, 0, none⟩ = some (.int .i64 (i : Int)) ∧ w'.cell? ⟨w.heap.size + 1, 1, none⟩ = some (.int .i64 (j : Int)) ∧ w'.cell? ⟨w.heap.size + 1, 2, none⟩ = some (.string x)) := by
      intro w' hb'
      have a1 := (KV.below B1 (by simp; omega)).below hb' (by omega)
      have a2 := (KE.below B1 (by simp)).below hb' (by omega)
      exact ⟨a1.cell 0, a2.cell 0, a2.cell 1, a2.cell 2⟩
    have KR1 := KR.below B1 (by simp)
    have hb1 : Below w.heap.size w w1 := hb.trans (B1.mono hb.size)
    have hv1 := hv3.below B1
    clear HL KV KE KR hv3 hb B1 hz3 hv
    have HKR := Lib.hid KR1
    have HS : Hid (∀ w', Below w1.heap.size w1 w' → Calls Tryz.prog 38 #[.pointer (some ⟨g, 0, none⟩), .int .i64 0, .int .i64 (i : Int)] w' (RetIs (t.extract 0 i) w')) := fun w' hb' => slice_is t _ w' (hv1.below hb') 0 i (by omega) (by omega)
    have HS2 : Hid (∀ w', Below w1.heap.size w1 w' → Calls Tryz.prog 38 #[.pointer (some ⟨g, 0, none⟩), .int .i64 ((i : Int) + (j : Int)), .int .i64 (t.size : Int)] w' (RetIs (t.extract (i + j) t.size) w')) := fun w' hb' => by rw [← Int.natCast_add]; exact slice_is t _ w' (hv1.below hb') (i + j) t.size (Nat.le_refl _) (by omega)
    have z1 : (t.extract 0 i).size + x.size ≤ 640 := by rw [ByteArray.size_extract]; omega
    have z2 : (t.extract 0 i ++ x).size + (t.extract (i + j) t.size).size ≤ 640 := by rw [ByteArray.size_append, ByteArray.size_extract, ByteArray.size_extract]; omega
    have hx : x.size ≤ 640 := by omega
    have c1 := K0.out w1 (Below.refl _ _)
    obtain ⟨x0, x1, x2, x3⟩ := c1
    have t1 : decide ((i : Int) < 0) = false := by simp
    have t2 : decide ((j : Int) < 0) = false := by simp
    have t3 : decide ((i : Int) > (t.size : Int)) = false := by simp; omega
    have t3' : decide ((t.size : Int) < (i : Int)) = false := t3
    have wr : IntKind.i64.wrap ((t.size : Int) - (i : Int)) = (t.size : Int) - (i : Int) := IntWalk.i64_in _ (by omega)
    have t4 : decide ((j : Int) > (t.size : Int) - (i : Int)) = false := by simp; omega
    have t4' : decide ((t.size : Int) - (i : Int) < (j : Int)) = false := t4
    clear hv1 KR1
    go_wp2_with fail
    clear x0 x1 x2 x3 t1 t2 t3 t3' t4 t4' wr
    generalize hs1 : t.extract 0 i = s1 at *
    generalize hs2 : t.extract (i + j) t.size = s2 at *
    have HQ1 := Lib.hid hs1
    have HQ2 := Lib.hid hs2
    clear hs1 hs2
    have hz0 : ∀ w', Below w1.heap.size w1 w' → w.heap.size + 1 + 1 < w'.heap.size := fun w' hb' => by have := hb'.size; omega
    go_region_held3 (fun w' => w'.cell? ⟨w.heap.size, 0, none⟩ = some (.pointer (some ⟨g, 0, none⟩)) ∧ w'.cell? ⟨w.heap.size + 1, 0, none⟩ = some (.int .i64 (i : Int)) ∧ w'.cell? ⟨w.heap.size + 1, 1, none⟩ = some (.int .i64 (j : Int)) ∧ w'.cell? ⟨w.heap.size + 1, 2, none⟩ = some (.string x))
      (first | exact K0.out _ Y3 | exact K0.out _ Y2 | exact K0.out _ Y1 | exact K0.out _ ((Below.refl _ _).drew))
      (first
        | (go_at_call 38; refine (HS.out _ ((Below.refl _ _).drew)).mono ?_; rintro e w2 ⟨v1, rfl, I1, B2⟩; have Y1 : Below w1.heap.size w1 w2 := ((Below.refl _ w1).drew).trans B2)
        | (go_at_call 33; refine (build_any x.size x _ (Nat.le_refl _) hx).mono ?_; rintro e w3 ⟨v2, rfl, I2, B3⟩; have Y2 : Below w1.heap.size w1 w3 := Y1.trans (B3.mono Y1.size); have I1' := I1.below B3)
        | (go_at_call 37; refine (join_any s1 x v1 v2 _ I1' I2 z1).mono ?_; rintro e w4 ⟨v3, rfl, I3, B4⟩; have Y3 : Below w1.heap.size w1 w4 := Y2.trans (B4.mono Y2.size)))
    all_goals
      rename_i hH
      clear hH
      obtain ⟨x0, x1, x2, x3⟩ := K0.out _ Y3
      have wr : IntKind.i64.wrap ((i : Int) + (j : Int)) = (i : Int) + (j : Int) := IntWalk.i64_in _ (by omega)
      go_wp2_with fail
      refine (HS2.out _ Y3).mono ?_
      rintro e w5 ⟨v4, rfl, I4, B5⟩
      have Y4 : Below w1.heap.size w1 w5 := Y3.trans (B5.mono Y3.size)
      have I3' := I3.below B5
      go_wp2_with fail
      refine (join_any _ _ v3 v4 _ I3' I4 z2).mono ?_
      rintro e w6 ⟨v5, rfl, I5, B6⟩
      have Y5 : Below w1.heap.size w1 w6 := Y4.trans (B6.mono Y4.size)
      have KR6 := HKR.out.below Y5 (by omega)
      have r0 := KR6.cell 0
      have f0 := KR6.frozen 0
      simp at r0
      rcases I5.ptr with rfl | ⟨g6, rfl⟩
      · have K2 : (w6.setCell ⟨w.heap.size + 1 + 1, 0, none⟩ (.pointer none)).cell? ⟨w.heap.size + 1 + 1, 0, none⟩ = some (.pointer none) := (KR6.set_ 0 _).cell 0
        go_wp2_with fail
        exact bodyPost_ret (results_rope2 rfl rfl rfl K2) rfl ⟨_, rfl, by rw [HQ1.out, HQ2.out]; exact I5.keep (Keep209.set (i := 0) KR6 (by decide) _), (hb1.trans (Y5.mono hb1.size)).setCell (by simp; omega) _⟩
      · have K2 : (w6.setCell ⟨w.heap.size + 1 + 1, 0, none⟩ (.pointer (some ⟨g6, 0, none⟩))).cell? ⟨w.heap.size + 1 + 1, 0, none⟩ = some (.pointer (some ⟨g6, 0, none⟩)) := (KR6.set_ 0 _).cell 0
        go_wp2_with fail
        exact bodyPost_ret (results_rope2 rfl rfl rfl K2) rfl ⟨_, rfl, by rw [HQ1.out, HQ2.out]; exact I5.keep (Keep209.set (i := 0) KR6 (by decide) _), (hb1.trans (Y5.mono hb1.size)).setCell (by simp; omega) _⟩
theorem ropeReplace_any (t : ByteArray) (v : Value) (a b : Int) (x : ByteArray) (w : World) (hv : ShIs t w v) (ht : t.size + x.size ≤ 640) :
    Calls Tryz.prog 13 #[.agg #[v], .agg #[.int .i64 a, .int .i64 b, .string x]] w fun e w' => ∃ v', e = .returned (.tuple #[.agg #[v'], .int .i64 (apF t ⟨a, b, x⟩)]) ∧ ShIs (apT t ⟨a, b, x⟩) w' v' ∧ Below w.heap.size w w' := by
  unfold apF apT
  cases hok : Ed.ok t.size ⟨a, b, x⟩ with
  | false =>
    refine (ropeReplace_no t v a b x w hv (by omega) hok).mono ?_
    rintro e w' ⟨rfl, hb⟩
    exact ⟨_, rfl, ShIs.nil' w', hb⟩
  | true =>
    obtain ⟨h1, h2, h3, h4⟩ := Ed.ok_iff.1 hok
    simp only at h1 h2 h3 h4
    obtain ⟨i, rfl⟩ := Int.eq_ofNat_of_zero_le h1
    obtain ⟨j, rfl⟩ := Int.eq_ofNat_of_zero_le h2
    refine (ropeReplace_yes t v i j x w hv ht (by omega)).mono ?_
    rintro e w' ⟨v', rfl, hI, hb⟩
    exact ⟨v', rfl, hI, hb⟩
end Go.Proofs.YtibdcnmaodmghaaGreatDoor
end
