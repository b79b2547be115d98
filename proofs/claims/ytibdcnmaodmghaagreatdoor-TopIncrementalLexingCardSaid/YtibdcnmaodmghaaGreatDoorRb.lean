/- The rope: slices of a rope. -/
import Derived.Test.YtibdcnmaodmghaaGreatDoorRx
import Derived.Test.YtibdcnmaodmghaaGreatDoorRt
section
namespace Go.Proofs.YtibdcnmaodmghaaGreatDoor
open Go.RowKit
set_option maxRecDepth 20000
def RetIs (t : ByteArray) (w : World) (e : Ending) (w' : World) : Prop := ∃ v, e = .returned v ∧ ShIs t w' v ∧ Below w.heap.size w w'
theorem tmps_of_eval {a : Act} {k : Nat} {v : Value} (h : a.eval (.tmp k) = v) (hk : k < a.tmps.size) : a.tmps[k] = v := by
  simpa [Act.eval, hk] using h
/-- What the world holds while the two halves are cut and joined. -/
structure SliceW (w w9 : World) (t1 t2 : ByteArray) (dA dB dC dE : Bool) (vA vB vC vE : Value) : Prop where
  bl : Below w.heap.size w w9
  a : dA = true → ShIs t1 w9 vA
  b : dB = true → ShIs t2 w9 vB
  c : dC = true → ShIs (t1 ++ t2) w9 vC
  e : dE = true → ShIs (t1 ++ t2) w9 vE
section
variable {w w9 w8 : World} {t1 t2 : ByteArray} {dA dB dC dE : Bool} {vA vB vC vE v : Value}
theorem SliceW.start (h : Below w.heap.size w w9) (t1 t2 : ByteArray) (vA vB vC vE : Value) : SliceW w w9 t1 t2 false false false false vA vB vC vE :=
  ⟨h, by simp, by simp, by simp, by simp⟩
theorem SliceW.one (h : SliceW w w9 t1 t2 false dB dC dE vA vB vC vE) (hB : Below w9.heap.size w9 w8) (hI : ShIs t1 w8 v) : SliceW w w8 t1 t2 true dB dC dE v vB vC vE :=
  ⟨h.bl.trans (hB.mono h.bl.size), fun _ => hI, fun x => (h.b x).below hB, fun x => (h.c x).below hB, fun x => (h.e x).below hB⟩
theorem SliceW.two (h : SliceW w w9 t1 t2 dA false dC dE vA vB vC vE) (hB : Below w9.heap.size w9 w8) (hI : ShIs t2 w8 v) : SliceW w w8 t1 t2 dA true dC dE vA v vC vE :=
  ⟨h.bl.trans (hB.mono h.bl.size), fun x => (h.a x).below hB, fun _ => hI, fun x => (h.c x).below hB, fun x => (h.e x).below hB⟩
theorem SliceW.three (h : SliceW w w9 t1 t2 dA dB false dE vA vB vC vE) (hB : Below w9.heap.size w9 w8) (hI : ShIs (t1 ++ t2) w8 v) : SliceW w w8 t1 t2 dA dB true dE vA vB v vE :=
  ⟨h.bl.trans (hB.mono h.bl.size), fun x => (h.a x).below hB, fun x => (h.b x).below hB, fun _ => hI, fun x => (h.e x).below hB⟩
theorem SliceW.four (h : SliceW w w9 t1 t2 dA dB dC false vA vB vC vE) (hv : ShIs (t1 ++ t2) w9 v) : SliceW w w9 t1 t2 dA dB dC true vA vB vC v :=
  ⟨h.bl, h.a, h.b, h.c, fun _ => hv⟩
end
set_option maxHeartbeats 4000000 in
theorem slice_mid1 (g' gl gr i j m rn : Nat) (out t1 t2 : ByteArray) (w : World) (hij : ¬ j ≤ i) (_ : decide ((j : Int) ≤ (i : Int)) = false) (_ : decide ((i : Int) ≥ (j : Int)) = false) (hjm : ¬ j ≤ m) (him : ¬ m ≤ i) (_ : decide ((j : Int) ≤ (m : Int)) = false)
    (_ : decide ((m : Int) ≤ (i : Int)) = false) (_ : decide ((i : Int) ≥ (m : Int)) = false) (q1 : ((i : Int) == 0) = true) (q2 : ((j : Int) == ((m : Int) + (rn : Int))) = false)
    (c1 : w.cell? ⟨g', 1, none⟩ = some (.pointer (some ⟨gl, 0, none⟩))) (_ : w.cell? ⟨g', 2, none⟩ = some (.pointer (some ⟨gr, 0, none⟩))) (c3 : w.cell? ⟨g', 3, none⟩ = some (.int .i64 ((m : Int) + (rn : Int)))) (cl : w.cell? ⟨gl, 3, none⟩ = some (.int .i64 (m : Int)))
    (hsz : m + rn ≤ 640) (hj : j ≤ m + rn) (hz1 : t1.size + t2.size ≤ 640)
    (HK : Hid (∀ w', Below w.heap.size w w' → w'.cell? ⟨g', 1, none⟩ = some (.pointer (some ⟨gl, 0, none⟩)) ∧ w'.cell? ⟨g', 2, none⟩ = some (.pointer (some ⟨gr, 0, none⟩))))
    (HL : Hid (∀ w', Below w.heap.size w w' → Calls Tryz.prog 38 #[.pointer (some ⟨gl, 0, none⟩), .int .i64 (i : Int), .int .i64 (m : Int)] w' (RetIs t1 w')))
    (HR : Hid (∀ w', Below w.heap.size w w' → Calls Tryz.prog 38 #[.pointer (some ⟨gr, 0, none⟩), .int .i64 0, .int .i64 ((j : Int) - (m : Int))] w' (RetIs t2 w')))
    (HX : Hid (out = t1 ++ t2)) : Calls Tryz.prog 38 #[.pointer (some ⟨g', 0, none⟩), .int .i64 (i : Int), .int .i64 (j : Int)] w (RetIs out w) := by
  go_enter Tryz.func38, Tryz.ntmps38
  go_wp2_with fail
  clear c1 c3 cl
  refine wp_region_steps ?_ ?_ (fun a0 => a0.tmps.size = 82 ∧ a0.eval (.tmp 0) = .pointer (some ⟨g', 0, none⟩) ∧ a0.eval (.tmp 1) = .int .i64 (i : Int) ∧ a0.eval (.tmp 2) = .int .i64 (j : Int) ∧ a0.eval (.tmp 7) = .int .i64 (m : Int))
    (fun a0 d a w9 => Same a0 [66, 67, 68, 69, 70, 71, 72, 73, 74, 75, 76, 77, 78, 79, 80, 81, 6] a ∧ SliceW w w9 t1 t2 (d 6) (d 14) (d 15) (d 16) (a.eval (.tmp 72)) (a.eval (.tmp 80)) (a.eval (.tmp 81)) (a.eval (.tmp 6)) ∧ (d 0 = true → a.eval (.tmp 66) = .pointer (some ⟨g', 0, none⟩)) ∧ (d 1 = true → a.eval (.tmp 67) = .pointer (some ⟨g', 0, none⟩)) ∧ (d 2 = true → a.eval (.tmp 68) = .pointer (some ⟨g', 1, none⟩)) ∧ (d 3 = true → a.eval (.tmp 69) = .pointer (some ⟨gl, 0, none⟩)) ∧ (d 4 = true → a.eval (.tmp 70) = .int .i64 (i : Int)) ∧ (d 5 = true → a.eval (.tmp 71) = .int .i64 (m : Int)) ∧ (d 7 = true → a.eval (.tmp 73) = .pointer (some ⟨g', 0, none⟩)) ∧ (d 8 = true → a.eval (.tmp 74) = .pointer (some ⟨g', 0, none⟩)) ∧ (d 9 = true → a.eval (.tmp 75) = .pointer (some ⟨g', 2, none⟩)) ∧ (d 10 = true → a.eval (.tmp 76) = .pointer (some ⟨gr, 0, none⟩)) ∧ (d 11 = true → a.eval (.tmp 77) = .int .i64 (j : Int)) ∧ (d 12 = true → a.eval (.tmp 78) = .int .i64 (m : Int)) ∧ (d 13 = true → a.eval (.tmp 79) = .int .i64 ((j : Int) - (m : Int))))
    ?_ ?_ ?_ ?_
  · kernel_rfl
  · kernel_rfl
  · exact ⟨rfl, rfl, rfl, rfl, rfl⟩
  · exact (fun a0 _ => ⟨Same.refl _ _, SliceW.start (Below.refl _ _).drew _ _ _ _ _ _, by simp, by simp, by simp, by simp, by simp, by simp, by simp, by simp, by simp, by simp, by simp, by simp, by simp⟩)
  · intro a0 hF
    obtain ⟨hsz, f0, f1, f2, f7⟩ := hF
    refine ⟨?_, ?_, ?_, ?_, ?_, ?_, ?_, ?_, ?_, ?_, ?_, ?_, ?_, ?_, ?_, ?_, ?_, trivial⟩
    · intro d a w9 K hd hdep ⟨hsm, htb, h66, h67, h68, h69, h70, h71, h73, h74, h75, h76, h77, h78, h79⟩ hK
      have hz : a.tmps.size = 82 := hsm.sz.trans hsz
      have hd0 : d 0 = false := hd
      rw [if_pos (by rfl)]
      have zz : 66 < a.tmps.size := by rw [hz]; decide
      have t0 := tmps_of_eval ((hsm.ev 0 (by decide)).trans f0) (by rw [hz]; decide)
      simp only [Oper.wp, execOp]
      go_simp
      show K (a.put (some 66) (.pointer (some ⟨g', 0, none⟩))) _
      refine hK.out _ _ ⟨hsm.put (by decide) _, ?_, fun _ => eval_put_same zz, fun h => (eval_put_ne (by decide)).trans (h67 h), fun h => (eval_put_ne (by decide)).trans (h68 h), fun h => (eval_put_ne (by decide)).trans (h69 h), fun h => (eval_put_ne (by decide)).trans (h70 h), fun h => (eval_put_ne (by decide)).trans (h71 h), fun h => (eval_put_ne (by decide)).trans (h73 h), fun h => (eval_put_ne (by decide)).trans (h74 h), fun h => (eval_put_ne (by decide)).trans (h75 h), fun h => (eval_put_ne (by decide)).trans (h76 h), fun h => (eval_put_ne (by decide)).trans (h77 h), fun h => (eval_put_ne (by decide)).trans (h78 h), fun h => (eval_put_ne (by decide)).trans (h79 h)⟩
      rw [eval_put_ne (a := a) (d := 66) (k := 72) (by decide), eval_put_ne (a := a) (d := 66) (k := 80) (by decide), eval_put_ne (a := a) (d := 66) (k := 81) (by decide), eval_put_ne (a := a) (d := 66) (k := 6) (by decide)]
      exact htb
    · intro d a w9 K hd hdep ⟨hsm, htb, h66, h67, h68, h69, h70, h71, h73, h74, h75, h76, h77, h78, h79⟩ hK
      have hz : a.tmps.size = 82 := hsm.sz.trans hsz
      have hd1 : d 1 = false := hd
      rw [if_pos (by rfl)]
      have zz : 67 < a.tmps.size := by rw [hz]; decide
      have d0 : d 0 = true := hdep ⟨0, .data⟩ (by simp) (by rfl)
      have t66 := tmps_of_eval (h66 d0) (by rw [hz]; decide)
      simp only [Oper.wp, execOp]
      go_simp
      show K (a.put (some 67) (.pointer (some ⟨g', 0, none⟩))) _
      refine hK.out _ _ ⟨hsm.put (by decide) _, ?_, fun h => (eval_put_ne (by decide)).trans (h66 h), fun _ => eval_put_same zz, fun h => (eval_put_ne (by decide)).trans (h68 h), fun h => (eval_put_ne (by decide)).trans (h69 h), fun h => (eval_put_ne (by decide)).trans (h70 h), fun h => (eval_put_ne (by decide)).trans (h71 h), fun h => (eval_put_ne (by decide)).trans (h73 h), fun h => (eval_put_ne (by decide)).trans (h74 h), fun h => (eval_put_ne (by decide)).trans (h75 h), fun h => (eval_put_ne (by decide)).trans (h76 h), fun h => (eval_put_ne (by decide)).trans (h77 h), fun h => (eval_put_ne (by decide)).trans (h78 h), fun h => (eval_put_ne (by decide)).trans (h79 h)⟩
      rw [eval_put_ne (a := a) (d := 67) (k := 72) (by decide), eval_put_ne (a := a) (d := 67) (k := 80) (by decide), eval_put_ne (a := a) (d := 67) (k := 81) (by decide), eval_put_ne (a := a) (d := 67) (k := 6) (by decide)]
      exact htb
    · intro d a w9 K hd hdep ⟨hsm, htb, h66, h67, h68, h69, h70, h71, h73, h74, h75, h76, h77, h78, h79⟩ hK
      have hz : a.tmps.size = 82 := hsm.sz.trans hsz
      have hd2 : d 2 = false := hd
      rw [if_pos (by rfl)]
      have zz : 68 < a.tmps.size := by rw [hz]; decide
      have d1 : d 1 = true := hdep ⟨1, .data⟩ (by simp) (by rfl)
      have t67 := tmps_of_eval (h67 d1) (by rw [hz]; decide)
      simp only [Oper.wp, execOp]
      go_simp
      show K (a.put (some 68) (.pointer (some ⟨g', 1, none⟩))) _
      refine hK.out _ _ ⟨hsm.put (by decide) _, ?_, fun h => (eval_put_ne (by decide)).trans (h66 h), fun h => (eval_put_ne (by decide)).trans (h67 h), fun _ => eval_put_same zz, fun h => (eval_put_ne (by decide)).trans (h69 h), fun h => (eval_put_ne (by decide)).trans (h70 h), fun h => (eval_put_ne (by decide)).trans (h71 h), fun h => (eval_put_ne (by decide)).trans (h73 h), fun h => (eval_put_ne (by decide)).trans (h74 h), fun h => (eval_put_ne (by decide)).trans (h75 h), fun h => (eval_put_ne (by decide)).trans (h76 h), fun h => (eval_put_ne (by decide)).trans (h77 h), fun h => (eval_put_ne (by decide)).trans (h78 h), fun h => (eval_put_ne (by decide)).trans (h79 h)⟩
      rw [eval_put_ne (a := a) (d := 68) (k := 72) (by decide), eval_put_ne (a := a) (d := 68) (k := 80) (by decide), eval_put_ne (a := a) (d := 68) (k := 81) (by decide), eval_put_ne (a := a) (d := 68) (k := 6) (by decide)]
      exact htb
    · intro d a w9 K hd hdep ⟨hsm, htb, h66, h67, h68, h69, h70, h71, h73, h74, h75, h76, h77, h78, h79⟩ hK
      have hz : a.tmps.size = 82 := hsm.sz.trans hsz
      have hd3 : d 3 = false := hd
      rw [if_pos (by rfl)]
      have zz : 69 < a.tmps.size := by rw [hz]; decide
      have d2 : d 2 = true := hdep ⟨2, .data⟩ (by simp) (by rfl)
      have t68 := tmps_of_eval (h68 d2) (by rw [hz]; decide)
      obtain ⟨x1, x2⟩ := HK.out _ htb.bl
      simp only [Oper.wp, execOp]
      go_simp
      show K (a.put (some 69) (.pointer (some ⟨gl, 0, none⟩))) _
      refine hK.out _ _ ⟨hsm.put (by decide) _, ?_, fun h => (eval_put_ne (by decide)).trans (h66 h), fun h => (eval_put_ne (by decide)).trans (h67 h), fun h => (eval_put_ne (by decide)).trans (h68 h), fun _ => eval_put_same zz, fun h => (eval_put_ne (by decide)).trans (h70 h), fun h => (eval_put_ne (by decide)).trans (h71 h), fun h => (eval_put_ne (by decide)).trans (h73 h), fun h => (eval_put_ne (by decide)).trans (h74 h), fun h => (eval_put_ne (by decide)).trans (h75 h), fun h => (eval_put_ne (by decide)).trans (h76 h), fun h => (eval_put_ne (by decide)).trans (h77 h), fun h => (eval_put_ne (by decide)).trans (h78 h), fun h => (eval_put_ne (by decide)).trans (h79 h)⟩
      rw [eval_put_ne (a := a) (d := 69) (k := 72) (by decide), eval_put_ne (a := a) (d := 69) (k := 80) (by decide), eval_put_ne (a := a) (d := 69) (k := 81) (by decide), eval_put_ne (a := a) (d := 69) (k := 6) (by decide)]
      exact htb
    · intro d a w9 K hd hdep ⟨hsm, htb, h66, h67, h68, h69, h70, h71, h73, h74, h75, h76, h77, h78, h79⟩ hK
      have hz : a.tmps.size = 82 := hsm.sz.trans hsz
      have hd4 : d 4 = false := hd
      rw [if_pos (by rfl)]
      have zz : 70 < a.tmps.size := by rw [hz]; decide
      have t1 := tmps_of_eval ((hsm.ev 1 (by decide)).trans f1) (by rw [hz]; decide)
      simp only [Oper.wp, execOp]
      go_simp
      show K (a.put (some 70) (.int .i64 (i : Int))) _
      refine hK.out _ _ ⟨hsm.put (by decide) _, ?_, fun h => (eval_put_ne (by decide)).trans (h66 h), fun h => (eval_put_ne (by decide)).trans (h67 h), fun h => (eval_put_ne (by decide)).trans (h68 h), fun h => (eval_put_ne (by decide)).trans (h69 h), fun _ => eval_put_same zz, fun h => (eval_put_ne (by decide)).trans (h71 h), fun h => (eval_put_ne (by decide)).trans (h73 h), fun h => (eval_put_ne (by decide)).trans (h74 h), fun h => (eval_put_ne (by decide)).trans (h75 h), fun h => (eval_put_ne (by decide)).trans (h76 h), fun h => (eval_put_ne (by decide)).trans (h77 h), fun h => (eval_put_ne (by decide)).trans (h78 h), fun h => (eval_put_ne (by decide)).trans (h79 h)⟩
      rw [eval_put_ne (a := a) (d := 70) (k := 72) (by decide), eval_put_ne (a := a) (d := 70) (k := 80) (by decide), eval_put_ne (a := a) (d := 70) (k := 81) (by decide), eval_put_ne (a := a) (d := 70) (k := 6) (by decide)]
      exact htb
    · intro d a w9 K hd hdep ⟨hsm, htb, h66, h67, h68, h69, h70, h71, h73, h74, h75, h76, h77, h78, h79⟩ hK
      have hz : a.tmps.size = 82 := hsm.sz.trans hsz
      have hd5 : d 5 = false := hd
      rw [if_pos (by rfl)]
      have zz : 71 < a.tmps.size := by rw [hz]; decide
      have t7 := tmps_of_eval ((hsm.ev 7 (by decide)).trans f7) (by rw [hz]; decide)
      simp only [Oper.wp, execOp]
      go_simp
      show K (a.put (some 71) (.int .i64 (m : Int))) _
      refine hK.out _ _ ⟨hsm.put (by decide) _, ?_, fun h => (eval_put_ne (by decide)).trans (h66 h), fun h => (eval_put_ne (by decide)).trans (h67 h), fun h => (eval_put_ne (by decide)).trans (h68 h), fun h => (eval_put_ne (by decide)).trans (h69 h), fun h => (eval_put_ne (by decide)).trans (h70 h), fun _ => eval_put_same zz, fun h => (eval_put_ne (by decide)).trans (h73 h), fun h => (eval_put_ne (by decide)).trans (h74 h), fun h => (eval_put_ne (by decide)).trans (h75 h), fun h => (eval_put_ne (by decide)).trans (h76 h), fun h => (eval_put_ne (by decide)).trans (h77 h), fun h => (eval_put_ne (by decide)).trans (h78 h), fun h => (eval_put_ne (by decide)).trans (h79 h)⟩
      rw [eval_put_ne (a := a) (d := 71) (k := 72) (by decide), eval_put_ne (a := a) (d := 71) (k := 80) (by decide), eval_put_ne (a := a) (d := 71) (k := 81) (by decide), eval_put_ne (a := a) (d := 71) (k := 6) (by decide)]
      exact htb
    · intro d a w9 K hd hdep ⟨hsm, htb, h66, h67, h68, h69, h70, h71, h73, h74, h75, h76, h77, h78, h79⟩ hK
      have hz : a.tmps.size = 82 := hsm.sz.trans hsz
      have hd6 : d 6 = false := hd
      rw [if_pos (by rfl)]
      have zz : 72 < a.tmps.size := by rw [hz]; decide
      have d3 : d 3 = true := hdep ⟨3, .data⟩ (by simp) (by rfl)
      have d4 : d 4 = true := hdep ⟨4, .data⟩ (by simp) (by rfl)
      have d5 : d 5 = true := hdep ⟨5, .data⟩ (by simp) (by rfl)
      have t69 := tmps_of_eval (h69 d3) (by rw [hz]; decide)
      have t70 := tmps_of_eval (h70 d4) (by rw [hz]; decide)
      have t71 := tmps_of_eval (h71 d5) (by rw [hz]; decide)
      rw [hd6] at htb
      simp only [Oper.wp, execOp]
      go_simp
      with_reducible refine (HL.out w9 htb.bl).mono ?_
      rintro e8 w8 ⟨vv, rfl, hI, hB⟩
      show K (a.put (some 72) _) _
      refine hK.out _ _ ⟨hsm.put (by decide) _, ?_, fun h => (eval_put_ne (by decide)).trans (h66 h), fun h => (eval_put_ne (by decide)).trans (h67 h), fun h => (eval_put_ne (by decide)).trans (h68 h), fun h => (eval_put_ne (by decide)).trans (h69 h), fun h => (eval_put_ne (by decide)).trans (h70 h), fun h => (eval_put_ne (by decide)).trans (h71 h), fun h => (eval_put_ne (by decide)).trans (h73 h), fun h => (eval_put_ne (by decide)).trans (h74 h), fun h => (eval_put_ne (by decide)).trans (h75 h), fun h => (eval_put_ne (by decide)).trans (h76 h), fun h => (eval_put_ne (by decide)).trans (h77 h), fun h => (eval_put_ne (by decide)).trans (h78 h), fun h => (eval_put_ne (by decide)).trans (h79 h)⟩
      rw [eval_put_same (a := a) (d := 72) zz, eval_put_ne (a := a) (d := 72) (k := 80) (by decide), eval_put_ne (a := a) (d := 72) (k := 81) (by decide), eval_put_ne (a := a) (d := 72) (k := 6) (by decide)]
      exact htb.one hB hI
    · intro d a w9 K hd hdep ⟨hsm, htb, h66, h67, h68, h69, h70, h71, h73, h74, h75, h76, h77, h78, h79⟩ hK
      have hz : a.tmps.size = 82 := hsm.sz.trans hsz
      have hd7 : d 7 = false := hd
      rw [if_pos (by rfl)]
      have zz : 73 < a.tmps.size := by rw [hz]; decide
      have t0 := tmps_of_eval ((hsm.ev 0 (by decide)).trans f0) (by rw [hz]; decide)
      simp only [Oper.wp, execOp]
      go_simp
      show K (a.put (some 73) (.pointer (some ⟨g', 0, none⟩))) _
      refine hK.out _ _ ⟨hsm.put (by decide) _, ?_, fun h => (eval_put_ne (by decide)).trans (h66 h), fun h => (eval_put_ne (by decide)).trans (h67 h), fun h => (eval_put_ne (by decide)).trans (h68 h), fun h => (eval_put_ne (by decide)).trans (h69 h), fun h => (eval_put_ne (by decide)).trans (h70 h), fun h => (eval_put_ne (by decide)).trans (h71 h), fun _ => eval_put_same zz, fun h => (eval_put_ne (by decide)).trans (h74 h), fun h => (eval_put_ne (by decide)).trans (h75 h), fun h => (eval_put_ne (by decide)).trans (h76 h), fun h => (eval_put_ne (by decide)).trans (h77 h), fun h => (eval_put_ne (by decide)).trans (h78 h), fun h => (eval_put_ne (by decide)).trans (h79 h)⟩
      rw [eval_put_ne (a := a) (d := 73) (k := 72) (by decide), eval_put_ne (a := a) (d := 73) (k := 80) (by decide), eval_put_ne (a := a) (d := 73) (k := 81) (by decide), eval_put_ne (a := a) (d := 73) (k := 6) (by decide)]
      exact htb
    · intro d a w9 K hd hdep ⟨hsm, htb, h66, h67, h68, h69, h70, h71, h73, h74, h75, h76, h77, h78, h79⟩ hK
      have hz : a.tmps.size = 82 := hsm.sz.trans hsz
      have hd8 : d 8 = false := hd
      rw [if_pos (by rfl)]
      have zz : 74 < a.tmps.size := by rw [hz]; decide
      have d7 : d 7 = true := hdep ⟨7, .data⟩ (by simp) (by rfl)
      have t73 := tmps_of_eval (h73 d7) (by rw [hz]; decide)
      simp only [Oper.wp, execOp]
      go_simp
      show K (a.put (some 74) (.pointer (some ⟨g', 0, none⟩))) _
      refine hK.out _ _ ⟨hsm.put (by decide) _, ?_, fun h => (eval_put_ne (by decide)).trans (h66 h), fun h => (eval_put_ne (by decide)).trans (h67 h), fun h => (eval_put_ne (by decide)).trans (h68 h), fun h => (eval_put_ne (by decide)).trans (h69 h), fun h => (eval_put_ne (by decide)).trans (h70 h), fun h => (eval_put_ne (by decide)).trans (h71 h), fun h => (eval_put_ne (by decide)).trans (h73 h), fun _ => eval_put_same zz, fun h => (eval_put_ne (by decide)).trans (h75 h), fun h => (eval_put_ne (by decide)).trans (h76 h), fun h => (eval_put_ne (by decide)).trans (h77 h), fun h => (eval_put_ne (by decide)).trans (h78 h), fun h => (eval_put_ne (by decide)).trans (h79 h)⟩
      rw [eval_put_ne (a := a) (d := 74) (k := 72) (by decide), eval_put_ne (a := a) (d := 74) (k := 80) (by decide), eval_put_ne (a := a) (d := 74) (k := 81) (by decide), eval_put_ne (a := a) (d := 74) (k := 6) (by decide)]
      exact htb
    · intro d a w9 K hd hdep ⟨hsm, htb, h66, h67, h68, h69, h70, h71, h73, h74, h75, h76, h77, h78, h79⟩ hK
      have hz : a.tmps.size = 82 := hsm.sz.trans hsz
      have hd9 : d 9 = false := hd
      rw [if_pos (by rfl)]
      have zz : 75 < a.tmps.size := by rw [hz]; decide
      have d8 : d 8 = true := hdep ⟨8, .data⟩ (by simp) (by rfl)
      have t74 := tmps_of_eval (h74 d8) (by rw [hz]; decide)
      simp only [Oper.wp, execOp]
      go_simp
      show K (a.put (some 75) (.pointer (some ⟨g', 2, none⟩))) _
      refine hK.out _ _ ⟨hsm.put (by decide) _, ?_, fun h => (eval_put_ne (by decide)).trans (h66 h), fun h => (eval_put_ne (by decide)).trans (h67 h), fun h => (eval_put_ne (by decide)).trans (h68 h), fun h => (eval_put_ne (by decide)).trans (h69 h), fun h => (eval_put_ne (by decide)).trans (h70 h), fun h => (eval_put_ne (by decide)).trans (h71 h), fun h => (eval_put_ne (by decide)).trans (h73 h), fun h => (eval_put_ne (by decide)).trans (h74 h), fun _ => eval_put_same zz, fun h => (eval_put_ne (by decide)).trans (h76 h), fun h => (eval_put_ne (by decide)).trans (h77 h), fun h => (eval_put_ne (by decide)).trans (h78 h), fun h => (eval_put_ne (by decide)).trans (h79 h)⟩
      rw [eval_put_ne (a := a) (d := 75) (k := 72) (by decide), eval_put_ne (a := a) (d := 75) (k := 80) (by decide), eval_put_ne (a := a) (d := 75) (k := 81) (by decide), eval_put_ne (a := a) (d := 75) (k := 6) (by decide)]
      exact htb
    · intro d a w9 K hd hdep ⟨hsm, htb, h66, h67, h68, h69, h70, h71, h73, h74, h75, h76, h77, h78, h79⟩ hK
      have hz : a.tmps.size = 82 := hsm.sz.trans hsz
      have hd10 : d 10 = false := hd
      rw [if_pos (by rfl)]
      have zz : 76 < a.tmps.size := by rw [hz]; decide
      have d9 : d 9 = true := hdep ⟨9, .data⟩ (by simp) (by rfl)
      have t75 := tmps_of_eval (h75 d9) (by rw [hz]; decide)
      obtain ⟨x1, x2⟩ := HK.out _ htb.bl
      simp only [Oper.wp, execOp]
      go_simp
      show K (a.put (some 76) (.pointer (some ⟨gr, 0, none⟩))) _
      refine hK.out _ _ ⟨hsm.put (by decide) _, ?_, fun h => (eval_put_ne (by decide)).trans (h66 h), fun h => (eval_put_ne (by decide)).trans (h67 h), fun h => (eval_put_ne (by decide)).trans (h68 h), fun h => (eval_put_ne (by decide)).trans (h69 h), fun h => (eval_put_ne (by decide)).trans (h70 h), fun h => (eval_put_ne (by decide)).trans (h71 h), fun h => (eval_put_ne (by decide)).trans (h73 h), fun h => (eval_put_ne (by decide)).trans (h74 h), fun h => (eval_put_ne (by decide)).trans (h75 h), fun _ => eval_put_same zz, fun h => (eval_put_ne (by decide)).trans (h77 h), fun h => (eval_put_ne (by decide)).trans (h78 h), fun h => (eval_put_ne (by decide)).trans (h79 h)⟩
      rw [eval_put_ne (a := a) (d := 76) (k := 72) (by decide), eval_put_ne (a := a) (d := 76) (k := 80) (by decide), eval_put_ne (a := a) (d := 76) (k := 81) (by decide), eval_put_ne (a := a) (d := 76) (k := 6) (by decide)]
      exact htb
    · intro d a w9 K hd hdep ⟨hsm, htb, h66, h67, h68, h69, h70, h71, h73, h74, h75, h76, h77, h78, h79⟩ hK
      have hz : a.tmps.size = 82 := hsm.sz.trans hsz
      have hd11 : d 11 = false := hd
      rw [if_pos (by rfl)]
      have zz : 77 < a.tmps.size := by rw [hz]; decide
      have t2 := tmps_of_eval ((hsm.ev 2 (by decide)).trans f2) (by rw [hz]; decide)
      simp only [Oper.wp, execOp]
      go_simp
      show K (a.put (some 77) (.int .i64 (j : Int))) _
      refine hK.out _ _ ⟨hsm.put (by decide) _, ?_, fun h => (eval_put_ne (by decide)).trans (h66 h), fun h => (eval_put_ne (by decide)).trans (h67 h), fun h => (eval_put_ne (by decide)).trans (h68 h), fun h => (eval_put_ne (by decide)).trans (h69 h), fun h => (eval_put_ne (by decide)).trans (h70 h), fun h => (eval_put_ne (by decide)).trans (h71 h), fun h => (eval_put_ne (by decide)).trans (h73 h), fun h => (eval_put_ne (by decide)).trans (h74 h), fun h => (eval_put_ne (by decide)).trans (h75 h), fun h => (eval_put_ne (by decide)).trans (h76 h), fun _ => eval_put_same zz, fun h => (eval_put_ne (by decide)).trans (h78 h), fun h => (eval_put_ne (by decide)).trans (h79 h)⟩
      rw [eval_put_ne (a := a) (d := 77) (k := 72) (by decide), eval_put_ne (a := a) (d := 77) (k := 80) (by decide), eval_put_ne (a := a) (d := 77) (k := 81) (by decide), eval_put_ne (a := a) (d := 77) (k := 6) (by decide)]
      exact htb
    · intro d a w9 K hd hdep ⟨hsm, htb, h66, h67, h68, h69, h70, h71, h73, h74, h75, h76, h77, h78, h79⟩ hK
      have hz : a.tmps.size = 82 := hsm.sz.trans hsz
      have hd12 : d 12 = false := hd
      rw [if_pos (by rfl)]
      have zz : 78 < a.tmps.size := by rw [hz]; decide
      have t7 := tmps_of_eval ((hsm.ev 7 (by decide)).trans f7) (by rw [hz]; decide)
      simp only [Oper.wp, execOp]
      go_simp
      show K (a.put (some 78) (.int .i64 (m : Int))) _
      refine hK.out _ _ ⟨hsm.put (by decide) _, ?_, fun h => (eval_put_ne (by decide)).trans (h66 h), fun h => (eval_put_ne (by decide)).trans (h67 h), fun h => (eval_put_ne (by decide)).trans (h68 h), fun h => (eval_put_ne (by decide)).trans (h69 h), fun h => (eval_put_ne (by decide)).trans (h70 h), fun h => (eval_put_ne (by decide)).trans (h71 h), fun h => (eval_put_ne (by decide)).trans (h73 h), fun h => (eval_put_ne (by decide)).trans (h74 h), fun h => (eval_put_ne (by decide)).trans (h75 h), fun h => (eval_put_ne (by decide)).trans (h76 h), fun h => (eval_put_ne (by decide)).trans (h77 h), fun _ => eval_put_same zz, fun h => (eval_put_ne (by decide)).trans (h79 h)⟩
      rw [eval_put_ne (a := a) (d := 78) (k := 72) (by decide), eval_put_ne (a := a) (d := 78) (k := 80) (by decide), eval_put_ne (a := a) (d := 78) (k := 81) (by decide), eval_put_ne (a := a) (d := 78) (k := 6) (by decide)]
      exact htb
    · intro d a w9 K hd hdep ⟨hsm, htb, h66, h67, h68, h69, h70, h71, h73, h74, h75, h76, h77, h78, h79⟩ hK
      have hz : a.tmps.size = 82 := hsm.sz.trans hsz
      have hd13 : d 13 = false := hd
      rw [if_pos (by rfl)]
      have zz : 79 < a.tmps.size := by rw [hz]; decide
      have d11 : d 11 = true := hdep ⟨11, .data⟩ (by simp) (by rfl)
      have d12 : d 12 = true := hdep ⟨12, .data⟩ (by simp) (by rfl)
      have t77 := tmps_of_eval (h77 d11) (by rw [hz]; decide)
      have t78 := tmps_of_eval (h78 d12) (by rw [hz]; decide)
      have hwr : IntKind.i64.wrap ((j : Int) - (m : Int)) = (j : Int) - (m : Int) := IntWalk.i64_in _ (by omega)
      simp only [Oper.wp, execOp]
      go_simp
      show K (a.put (some 79) (.int .i64 ((j : Int) - (m : Int)))) _
      refine hK.out _ _ ⟨hsm.put (by decide) _, ?_, fun h => (eval_put_ne (by decide)).trans (h66 h), fun h => (eval_put_ne (by decide)).trans (h67 h), fun h => (eval_put_ne (by decide)).trans (h68 h), fun h => (eval_put_ne (by decide)).trans (h69 h), fun h => (eval_put_ne (by decide)).trans (h70 h), fun h => (eval_put_ne (by decide)).trans (h71 h), fun h => (eval_put_ne (by decide)).trans (h73 h), fun h => (eval_put_ne (by decide)).trans (h74 h), fun h => (eval_put_ne (by decide)).trans (h75 h), fun h => (eval_put_ne (by decide)).trans (h76 h), fun h => (eval_put_ne (by decide)).trans (h77 h), fun h => (eval_put_ne (by decide)).trans (h78 h), fun _ => eval_put_same zz⟩
      rw [eval_put_ne (a := a) (d := 79) (k := 72) (by decide), eval_put_ne (a := a) (d := 79) (k := 80) (by decide), eval_put_ne (a := a) (d := 79) (k := 81) (by decide), eval_put_ne (a := a) (d := 79) (k := 6) (by decide)]
      exact htb
    · intro d a w9 K hd hdep ⟨hsm, htb, h66, h67, h68, h69, h70, h71, h73, h74, h75, h76, h77, h78, h79⟩ hK
      have hz : a.tmps.size = 82 := hsm.sz.trans hsz
      have hd14 : d 14 = false := hd
      rw [if_pos (by rfl)]
      have zz : 80 < a.tmps.size := by rw [hz]; decide
      have d10 : d 10 = true := hdep ⟨10, .data⟩ (by simp) (by rfl)
      have d13 : d 13 = true := hdep ⟨13, .data⟩ (by simp) (by rfl)
      have t76 := tmps_of_eval (h76 d10) (by rw [hz]; decide)
      have t79 := tmps_of_eval (h79 d13) (by rw [hz]; decide)
      have d6 : d 6 = true := hdep ⟨6, .chain⟩ (by simp) (by rfl)
      rw [hd14] at htb
      simp only [Oper.wp, execOp]
      go_simp
      with_reducible refine (HR.out w9 htb.bl).mono ?_
      rintro e8 w8 ⟨vv, rfl, hI, hB⟩
      show K (a.put (some 80) _) _
      refine hK.out _ _ ⟨hsm.put (by decide) _, ?_, fun h => (eval_put_ne (by decide)).trans (h66 h), fun h => (eval_put_ne (by decide)).trans (h67 h), fun h => (eval_put_ne (by decide)).trans (h68 h), fun h => (eval_put_ne (by decide)).trans (h69 h), fun h => (eval_put_ne (by decide)).trans (h70 h), fun h => (eval_put_ne (by decide)).trans (h71 h), fun h => (eval_put_ne (by decide)).trans (h73 h), fun h => (eval_put_ne (by decide)).trans (h74 h), fun h => (eval_put_ne (by decide)).trans (h75 h), fun h => (eval_put_ne (by decide)).trans (h76 h), fun h => (eval_put_ne (by decide)).trans (h77 h), fun h => (eval_put_ne (by decide)).trans (h78 h), fun h => (eval_put_ne (by decide)).trans (h79 h)⟩
      rw [eval_put_ne (a := a) (d := 80) (k := 72) (by decide), eval_put_same (a := a) (d := 80) zz, eval_put_ne (a := a) (d := 80) (k := 81) (by decide), eval_put_ne (a := a) (d := 80) (k := 6) (by decide)]
      exact htb.two hB hI
    · intro d a w9 K hd hdep ⟨hsm, htb, h66, h67, h68, h69, h70, h71, h73, h74, h75, h76, h77, h78, h79⟩ hK
      have hz : a.tmps.size = 82 := hsm.sz.trans hsz
      have hd15 : d 15 = false := hd
      rw [if_pos (by rfl)]
      have zz : 81 < a.tmps.size := by rw [hz]; decide
      have d6 : d 6 = true := hdep ⟨6, .data⟩ (by simp) (by rfl)
      have d14 : d 14 = true := hdep ⟨14, .data⟩ (by simp) (by rfl)
      rw [hd15] at htb
      obtain ⟨vv1, hv1⟩ : ∃ v, a.eval (.tmp 72) = v := ⟨_, rfl⟩
      obtain ⟨vv2, hv2⟩ : ∃ v, a.eval (.tmp 80) = v := ⟨_, rfl⟩
      have t72 := tmps_of_eval hv1 (by rw [hz]; decide)
      have t80 := tmps_of_eval hv2 (by rw [hz]; decide)
      have hJ := join_any t1 t2 vv1 vv2 w9 (by rw [← hv1]; exact htb.a d6) (by rw [← hv2]; exact htb.b d14) hz1
      simp only [Oper.wp, execOp]
      go_simp
      with_reducible refine hJ.mono ?_
      rintro e8 w8 ⟨vv, rfl, hI, hB⟩
      show K (a.put (some 81) _) _
      refine hK.out _ _ ⟨hsm.put (by decide) _, ?_, fun h => (eval_put_ne (by decide)).trans (h66 h), fun h => (eval_put_ne (by decide)).trans (h67 h), fun h => (eval_put_ne (by decide)).trans (h68 h), fun h => (eval_put_ne (by decide)).trans (h69 h), fun h => (eval_put_ne (by decide)).trans (h70 h), fun h => (eval_put_ne (by decide)).trans (h71 h), fun h => (eval_put_ne (by decide)).trans (h73 h), fun h => (eval_put_ne (by decide)).trans (h74 h), fun h => (eval_put_ne (by decide)).trans (h75 h), fun h => (eval_put_ne (by decide)).trans (h76 h), fun h => (eval_put_ne (by decide)).trans (h77 h), fun h => (eval_put_ne (by decide)).trans (h78 h), fun h => (eval_put_ne (by decide)).trans (h79 h)⟩
      rw [eval_put_ne (a := a) (d := 81) (k := 72) (by decide), eval_put_ne (a := a) (d := 81) (k := 80) (by decide), eval_put_same (a := a) (d := 81) zz, eval_put_ne (a := a) (d := 81) (k := 6) (by decide)]
      exact htb.three hB hI
    · intro d a w9 K hd hdep ⟨hsm, htb, h66, h67, h68, h69, h70, h71, h73, h74, h75, h76, h77, h78, h79⟩ hK
      have hz : a.tmps.size = 82 := hsm.sz.trans hsz
      have hd16 : d 16 = false := hd
      rw [if_pos (by rfl)]
      have zz : 6 < a.tmps.size := by rw [hz]; decide
      have d15 : d 15 = true := hdep ⟨15, .data⟩ (by simp) (by rfl)
      rw [hd16] at htb
      obtain ⟨vv3, hv3⟩ : ∃ v, a.eval (.tmp 81) = v := ⟨_, rfl⟩
      have t81 := tmps_of_eval hv3 (by rw [hz]; decide)
      simp only [Oper.wp, execOp, hv3]
      go_simp
      show K (a.put (some 6) _) _
      refine hK.out _ _ ⟨hsm.put (by decide) _, ?_, fun h => (eval_put_ne (by decide)).trans (h66 h), fun h => (eval_put_ne (by decide)).trans (h67 h), fun h => (eval_put_ne (by decide)).trans (h68 h), fun h => (eval_put_ne (by decide)).trans (h69 h), fun h => (eval_put_ne (by decide)).trans (h70 h), fun h => (eval_put_ne (by decide)).trans (h71 h), fun h => (eval_put_ne (by decide)).trans (h73 h), fun h => (eval_put_ne (by decide)).trans (h74 h), fun h => (eval_put_ne (by decide)).trans (h75 h), fun h => (eval_put_ne (by decide)).trans (h76 h), fun h => (eval_put_ne (by decide)).trans (h77 h), fun h => (eval_put_ne (by decide)).trans (h78 h), fun h => (eval_put_ne (by decide)).trans (h79 h)⟩
      rw [eval_put_ne (a := a) (d := 6) (k := 72) (by decide), eval_put_ne (a := a) (d := 6) (k := 80) (by decide), eval_put_ne (a := a) (d := 6) (k := 81) (by decide), eval_put_same (a := a) (d := 6) zz]
      exact htb.four (by rw [← hv3]; exact htb.c d15)
  · intro d a w9 hd ⟨hsm, htb, h66, h67, h68, h69, h70, h71, h73, h74, h75, h76, h77, h78, h79⟩
    have d0 : d 0 = true := hd 0 (by simp)
    have d1 : d 1 = true := hd 1 (by simp)
    have d2 : d 2 = true := hd 2 (by simp)
    have d3 : d 3 = true := hd 3 (by simp)
    have d4 : d 4 = true := hd 4 (by simp)
    have d5 : d 5 = true := hd 5 (by simp)
    have d6 : d 6 = true := hd 6 (by simp)
    have d7 : d 7 = true := hd 7 (by simp)
    have d8 : d 8 = true := hd 8 (by simp)
    have d9 : d 9 = true := hd 9 (by simp)
    have d10 : d 10 = true := hd 10 (by simp)
    have d11 : d 11 = true := hd 11 (by simp)
    have d12 : d 12 = true := hd 12 (by simp)
    have d13 : d 13 = true := hd 13 (by simp)
    have d14 : d 14 = true := hd 14 (by simp)
    have d15 : d 15 = true := hd 15 (by simp)
    have d16 : d 16 = true := hd 16 (by simp)
    rw [d6, d14, d15, d16] at htb
    obtain ⟨hbl, _, _, _, he⟩ := htb
    have hc9 := he rfl
    clear he
    obtain ⟨vv6, hv6⟩ : ∃ v, a.eval (.tmp 6) = v := ⟨_, rfl⟩
    obtain ⟨vv1, hv1⟩ : ∃ v, a.eval (.tmp 72) = v := ⟨_, rfl⟩
    obtain ⟨vv2, hv2⟩ : ∃ v, a.eval (.tmp 80) = v := ⟨_, rfl⟩
    obtain ⟨vv3, hv3⟩ : ∃ v, a.eval (.tmp 81) = v := ⟨_, rfl⟩
    rw [hv6] at hc9
    have ha := hsm.eq
    simp only [List.foldl_cons, List.foldl_nil] at ha
    rw [h66 d0, h67 d1, h68 d2, h69 d3, h70 d4, h71 d5, hv1, h73 d7, h74 d8, h75 d9, h76 d10, h77 d11, h78 d12, h79 d13, hv2, hv3, hv6] at ha
    clear hsm h66 h67 h68 h69 h70 h71 h73 h74 h75 h76 h77 h78 h79 hv1 hv2 hv3 hv6 hd
    subst ha
    simp only [Act.put, List.setIfInBounds_toArray, List.set_cons_zero, List.set_cons_succ]
    go_wp2_with fail
    go_ret
    exact ⟨_, rfl, by rw [HX.out]; exact hc9, hbl⟩
set_option maxHeartbeats 4000000 in
theorem slice_mid2 (g' gl gr i j m rn : Nat) (out t1 t2 : ByteArray) (w : World) (hij : ¬ j ≤ i) (_ : decide ((j : Int) ≤ (i : Int)) = false) (_ : decide ((i : Int) ≥ (j : Int)) = false) (hjm : ¬ j ≤ m) (him : ¬ m ≤ i) (_ : decide ((j : Int) ≤ (m : Int)) = false)
    (_ : decide ((m : Int) ≤ (i : Int)) = false) (_ : decide ((i : Int) ≥ (m : Int)) = false) (q1 : ((i : Int) == 0) = false)
    (c1 : w.cell? ⟨g', 1, none⟩ = some (.pointer (some ⟨gl, 0, none⟩))) (_ : w.cell? ⟨g', 2, none⟩ = some (.pointer (some ⟨gr, 0, none⟩))) (_ : w.cell? ⟨g', 3, none⟩ = some (.int .i64 ((m : Int) + (rn : Int)))) (cl : w.cell? ⟨gl, 3, none⟩ = some (.int .i64 (m : Int)))
    (hsz : m + rn ≤ 640) (hj : j ≤ m + rn) (hz1 : t1.size + t2.size ≤ 640)
    (HK : Hid (∀ w', Below w.heap.size w w' → w'.cell? ⟨g', 1, none⟩ = some (.pointer (some ⟨gl, 0, none⟩)) ∧ w'.cell? ⟨g', 2, none⟩ = some (.pointer (some ⟨gr, 0, none⟩))))
    (HL : Hid (∀ w', Below w.heap.size w w' → Calls Tryz.prog 38 #[.pointer (some ⟨gl, 0, none⟩), .int .i64 (i : Int), .int .i64 (m : Int)] w' (RetIs t1 w')))
    (HR : Hid (∀ w', Below w.heap.size w w' → Calls Tryz.prog 38 #[.pointer (some ⟨gr, 0, none⟩), .int .i64 0, .int .i64 ((j : Int) - (m : Int))] w' (RetIs t2 w')))
    (HX : Hid (out = t1 ++ t2)) : Calls Tryz.prog 38 #[.pointer (some ⟨g', 0, none⟩), .int .i64 (i : Int), .int .i64 (j : Int)] w (RetIs out w) := by
  go_enter Tryz.func38, Tryz.ntmps38
  go_wp2_with fail
  clear c1 cl
  refine wp_region_steps ?_ ?_ (fun a0 => a0.tmps.size = 82 ∧ a0.eval (.tmp 0) = .pointer (some ⟨g', 0, none⟩) ∧ a0.eval (.tmp 1) = .int .i64 (i : Int) ∧ a0.eval (.tmp 2) = .int .i64 (j : Int) ∧ a0.eval (.tmp 7) = .int .i64 (m : Int))
    (fun a0 d a w9 => Same a0 [66, 67, 68, 69, 70, 71, 72, 73, 74, 75, 76, 77, 78, 79, 80, 81, 6] a ∧ SliceW w w9 t1 t2 (d 6) (d 14) (d 15) (d 16) (a.eval (.tmp 72)) (a.eval (.tmp 80)) (a.eval (.tmp 81)) (a.eval (.tmp 6)) ∧ (d 0 = true → a.eval (.tmp 66) = .pointer (some ⟨g', 0, none⟩)) ∧ (d 1 = true → a.eval (.tmp 67) = .pointer (some ⟨g', 0, none⟩)) ∧ (d 2 = true → a.eval (.tmp 68) = .pointer (some ⟨g', 1, none⟩)) ∧ (d 3 = true → a.eval (.tmp 69) = .pointer (some ⟨gl, 0, none⟩)) ∧ (d 4 = true → a.eval (.tmp 70) = .int .i64 (i : Int)) ∧ (d 5 = true → a.eval (.tmp 71) = .int .i64 (m : Int)) ∧ (d 7 = true → a.eval (.tmp 73) = .pointer (some ⟨g', 0, none⟩)) ∧ (d 8 = true → a.eval (.tmp 74) = .pointer (some ⟨g', 0, none⟩)) ∧ (d 9 = true → a.eval (.tmp 75) = .pointer (some ⟨g', 2, none⟩)) ∧ (d 10 = true → a.eval (.tmp 76) = .pointer (some ⟨gr, 0, none⟩)) ∧ (d 11 = true → a.eval (.tmp 77) = .int .i64 (j : Int)) ∧ (d 12 = true → a.eval (.tmp 78) = .int .i64 (m : Int)) ∧ (d 13 = true → a.eval (.tmp 79) = .int .i64 ((j : Int) - (m : Int))))
    ?_ ?_ ?_ ?_
  · kernel_rfl
  · kernel_rfl
  · exact ⟨rfl, rfl, rfl, rfl, rfl⟩
  · exact (fun a0 _ => ⟨Same.refl _ _, SliceW.start (Below.refl _ _).drew _ _ _ _ _ _, by simp, by simp, by simp, by simp, by simp, by simp, by simp, by simp, by simp, by simp, by simp, by simp, by simp⟩)
  · intro a0 hF
    obtain ⟨hsz, f0, f1, f2, f7⟩ := hF
    refine ⟨?_, ?_, ?_, ?_, ?_, ?_, ?_, ?_, ?_, ?_, ?_, ?_, ?_, ?_, ?_, ?_, ?_, trivial⟩
    · intro d a w9 K hd hdep ⟨hsm, htb, h66, h67, h68, h69, h70, h71, h73, h74, h75, h76, h77, h78, h79⟩ hK
      have hz : a.tmps.size = 82 := hsm.sz.trans hsz
      have hd0 : d 0 = false := hd
      rw [if_pos (by rfl)]
      have zz : 66 < a.tmps.size := by rw [hz]; decide
      have t0 := tmps_of_eval ((hsm.ev 0 (by decide)).trans f0) (by rw [hz]; decide)
      simp only [Oper.wp, execOp]
      go_simp
      show K (a.put (some 66) (.pointer (some ⟨g', 0, none⟩))) _
      refine hK.out _ _ ⟨hsm.put (by decide) _, ?_, fun _ => eval_put_same zz, fun h => (eval_put_ne (by decide)).trans (h67 h), fun h => (eval_put_ne (by decide)).trans (h68 h), fun h => (eval_put_ne (by decide)).trans (h69 h), fun h => (eval_put_ne (by decide)).trans (h70 h), fun h => (eval_put_ne (by decide)).trans (h71 h), fun h => (eval_put_ne (by decide)).trans (h73 h), fun h => (eval_put_ne (by decide)).trans (h74 h), fun h => (eval_put_ne (by decide)).trans (h75 h), fun h => (eval_put_ne (by decide)).trans (h76 h), fun h => (eval_put_ne (by decide)).trans (h77 h), fun h => (eval_put_ne (by decide)).trans (h78 h), fun h => (eval_put_ne (by decide)).trans (h79 h)⟩
      rw [eval_put_ne (a := a) (d := 66) (k := 72) (by decide), eval_put_ne (a := a) (d := 66) (k := 80) (by decide), eval_put_ne (a := a) (d := 66) (k := 81) (by decide), eval_put_ne (a := a) (d := 66) (k := 6) (by decide)]
      exact htb
    · intro d a w9 K hd hdep ⟨hsm, htb, h66, h67, h68, h69, h70, h71, h73, h74, h75, h76, h77, h78, h79⟩ hK
      have hz : a.tmps.size = 82 := hsm.sz.trans hsz
      have hd1 : d 1 = false := hd
      rw [if_pos (by rfl)]
      have zz : 67 < a.tmps.size := by rw [hz]; decide
      have d0 : d 0 = true := hdep ⟨0, .data⟩ (by simp) (by rfl)
      have t66 := tmps_of_eval (h66 d0) (by rw [hz]; decide)
      simp only [Oper.wp, execOp]
      go_simp
      show K (a.put (some 67) (.pointer (some ⟨g', 0, none⟩))) _
      refine hK.out _ _ ⟨hsm.put (by decide) _, ?_, fun h => (eval_put_ne (by decide)).trans (h66 h), fun _ => eval_put_same zz, fun h => (eval_put_ne (by decide)).trans (h68 h), fun h => (eval_put_ne (by decide)).trans (h69 h), fun h => (eval_put_ne (by decide)).trans (h70 h), fun h => (eval_put_ne (by decide)).trans (h71 h), fun h => (eval_put_ne (by decide)).trans (h73 h), fun h => (eval_put_ne (by decide)).trans (h74 h), fun h => (eval_put_ne (by decide)).trans (h75 h), fun h => (eval_put_ne (by decide)).trans (h76 h), fun h => (eval_put_ne (by decide)).trans (h77 h), fun h => (eval_put_ne (by decide)).trans (h78 h), fun h => (eval_put_ne (by decide)).trans (h79 h)⟩
      rw [eval_put_ne (a := a) (d := 67) (k := 72) (by decide), eval_put_ne (a := a) (d := 67) (k := 80) (by decide), eval_put_ne (a := a) (d := 67) (k := 81) (by decide), eval_put_ne (a := a) (d := 67) (k := 6) (by decide)]
      exact htb
    · intro d a w9 K hd hdep ⟨hsm, htb, h66, h67, h68, h69, h70, h71, h73, h74, h75, h76, h77, h78, h79⟩ hK
      have hz : a.tmps.size = 82 := hsm.sz.trans hsz
      have hd2 : d 2 = false := hd
      rw [if_pos (by rfl)]
      have zz : 68 < a.tmps.size := by rw [hz]; decide
      have d1 : d 1 = true := hdep ⟨1, .data⟩ (by simp) (by rfl)
      have t67 := tmps_of_eval (h67 d1) (by rw [hz]; decide)
      simp only [Oper.wp, execOp]
      go_simp
      show K (a.put (some 68) (.pointer (some ⟨g', 1, none⟩))) _
      refine hK.out _ _ ⟨hsm.put (by decide) _, ?_, fun h => (eval_put_ne (by decide)).trans (h66 h), fun h => (eval_put_ne (by decide)).trans (h67 h), fun _ => eval_put_same zz, fun h => (eval_put_ne (by decide)).trans (h69 h), fun h => (eval_put_ne (by decide)).trans (h70 h), fun h => (eval_put_ne (by decide)).trans (h71 h), fun h => (eval_put_ne (by decide)).trans (h73 h), fun h => (eval_put_ne (by decide)).trans (h74 h), fun h => (eval_put_ne (by decide)).trans (h75 h), fun h => (eval_put_ne (by decide)).trans (h76 h), fun h => (eval_put_ne (by decide)).trans (h77 h), fun h => (eval_put_ne (by decide)).trans (h78 h), fun h => (eval_put_ne (by decide)).trans (h79 h)⟩
      rw [eval_put_ne (a := a) (d := 68) (k := 72) (by decide), eval_put_ne (a := a) (d := 68) (k := 80) (by decide), eval_put_ne (a := a) (d := 68) (k := 81) (by decide), eval_put_ne (a := a) (d := 68) (k := 6) (by decide)]
      exact htb
    · intro d a w9 K hd hdep ⟨hsm, htb, h66, h67, h68, h69, h70, h71, h73, h74, h75, h76, h77, h78, h79⟩ hK
      have hz : a.tmps.size = 82 := hsm.sz.trans hsz
      have hd3 : d 3 = false := hd
      rw [if_pos (by rfl)]
      have zz : 69 < a.tmps.size := by rw [hz]; decide
      have d2 : d 2 = true := hdep ⟨2, .data⟩ (by simp) (by rfl)
      have t68 := tmps_of_eval (h68 d2) (by rw [hz]; decide)
      obtain ⟨x1, x2⟩ := HK.out _ htb.bl
      simp only [Oper.wp, execOp]
      go_simp
      show K (a.put (some 69) (.pointer (some ⟨gl, 0, none⟩))) _
      refine hK.out _ _ ⟨hsm.put (by decide) _, ?_, fun h => (eval_put_ne (by decide)).trans (h66 h), fun h => (eval_put_ne (by decide)).trans (h67 h), fun h => (eval_put_ne (by decide)).trans (h68 h), fun _ => eval_put_same zz, fun h => (eval_put_ne (by decide)).trans (h70 h), fun h => (eval_put_ne (by decide)).trans (h71 h), fun h => (eval_put_ne (by decide)).trans (h73 h), fun h => (eval_put_ne (by decide)).trans (h74 h), fun h => (eval_put_ne (by decide)).trans (h75 h), fun h => (eval_put_ne (by decide)).trans (h76 h), fun h => (eval_put_ne (by decide)).trans (h77 h), fun h => (eval_put_ne (by decide)).trans (h78 h), fun h => (eval_put_ne (by decide)).trans (h79 h)⟩
      rw [eval_put_ne (a := a) (d := 69) (k := 72) (by decide), eval_put_ne (a := a) (d := 69) (k := 80) (by decide), eval_put_ne (a := a) (d := 69) (k := 81) (by decide), eval_put_ne (a := a) (d := 69) (k := 6) (by decide)]
      exact htb
    · intro d a w9 K hd hdep ⟨hsm, htb, h66, h67, h68, h69, h70, h71, h73, h74, h75, h76, h77, h78, h79⟩ hK
      have hz : a.tmps.size = 82 := hsm.sz.trans hsz
      have hd4 : d 4 = false := hd
      rw [if_pos (by rfl)]
      have zz : 70 < a.tmps.size := by rw [hz]; decide
      have t1 := tmps_of_eval ((hsm.ev 1 (by decide)).trans f1) (by rw [hz]; decide)
      simp only [Oper.wp, execOp]
      go_simp
      show K (a.put (some 70) (.int .i64 (i : Int))) _
      refine hK.out _ _ ⟨hsm.put (by decide) _, ?_, fun h => (eval_put_ne (by decide)).trans (h66 h), fun h => (eval_put_ne (by decide)).trans (h67 h), fun h => (eval_put_ne (by decide)).trans (h68 h), fun h => (eval_put_ne (by decide)).trans (h69 h), fun _ => eval_put_same zz, fun h => (eval_put_ne (by decide)).trans (h71 h), fun h => (eval_put_ne (by decide)).trans (h73 h), fun h => (eval_put_ne (by decide)).trans (h74 h), fun h => (eval_put_ne (by decide)).trans (h75 h), fun h => (eval_put_ne (by decide)).trans (h76 h), fun h => (eval_put_ne (by decide)).trans (h77 h), fun h => (eval_put_ne (by decide)).trans (h78 h), fun h => (eval_put_ne (by decide)).trans (h79 h)⟩
      rw [eval_put_ne (a := a) (d := 70) (k := 72) (by decide), eval_put_ne (a := a) (d := 70) (k := 80) (by decide), eval_put_ne (a := a) (d := 70) (k := 81) (by decide), eval_put_ne (a := a) (d := 70) (k := 6) (by decide)]
      exact htb
    · intro d a w9 K hd hdep ⟨hsm, htb, h66, h67, h68, h69, h70, h71, h73, h74, h75, h76, h77, h78, h79⟩ hK
      have hz : a.tmps.size = 82 := hsm.sz.trans hsz
      have hd5 : d 5 = false := hd
      rw [if_pos (by rfl)]
      have zz : 71 < a.tmps.size := by rw [hz]; decide
      have t7 := tmps_of_eval ((hsm.ev 7 (by decide)).trans f7) (by rw [hz]; decide)
      simp only [Oper.wp, execOp]
      go_simp
      show K (a.put (some 71) (.int .i64 (m : Int))) _
      refine hK.out _ _ ⟨hsm.put (by decide) _, ?_, fun h => (eval_put_ne (by decide)).trans (h66 h), fun h => (eval_put_ne (by decide)).trans (h67 h), fun h => (eval_put_ne (by decide)).trans (h68 h), fun h => (eval_put_ne (by decide)).trans (h69 h), fun h => (eval_put_ne (by decide)).trans (h70 h), fun _ => eval_put_same zz, fun h => (eval_put_ne (by decide)).trans (h73 h), fun h => (eval_put_ne (by decide)).trans (h74 h), fun h => (eval_put_ne (by decide)).trans (h75 h), fun h => (eval_put_ne (by decide)).trans (h76 h), fun h => (eval_put_ne (by decide)).trans (h77 h), fun h => (eval_put_ne (by decide)).trans (h78 h), fun h => (eval_put_ne (by decide)).trans (h79 h)⟩
      rw [eval_put_ne (a := a) (d := 71) (k := 72) (by decide), eval_put_ne (a := a) (d := 71) (k := 80) (by decide), eval_put_ne (a := a) (d := 71) (k := 81) (by decide), eval_put_ne (a := a) (d := 71) (k := 6) (by decide)]
      exact htb
    · intro d a w9 K hd hdep ⟨hsm, htb, h66, h67, h68, h69, h70, h71, h73, h74, h75, h76, h77, h78, h79⟩ hK
      have hz : a.tmps.size = 82 := hsm.sz.trans hsz
      have hd6 : d 6 = false := hd
      rw [if_pos (by rfl)]
      have zz : 72 < a.tmps.size := by rw [hz]; decide
      have d3 : d 3 = true := hdep ⟨3, .data⟩ (by simp) (by rfl)
      have d4 : d 4 = true := hdep ⟨4, .data⟩ (by simp) (by rfl)
      have d5 : d 5 = true := hdep ⟨5, .data⟩ (by simp) (by rfl)
      have t69 := tmps_of_eval (h69 d3) (by rw [hz]; decide)
      have t70 := tmps_of_eval (h70 d4) (by rw [hz]; decide)
      have t71 := tmps_of_eval (h71 d5) (by rw [hz]; decide)
      rw [hd6] at htb
      simp only [Oper.wp, execOp]
      go_simp
      with_reducible refine (HL.out w9 htb.bl).mono ?_
      rintro e8 w8 ⟨vv, rfl, hI, hB⟩
      show K (a.put (some 72) _) _
      refine hK.out _ _ ⟨hsm.put (by decide) _, ?_, fun h => (eval_put_ne (by decide)).trans (h66 h), fun h => (eval_put_ne (by decide)).trans (h67 h), fun h => (eval_put_ne (by decide)).trans (h68 h), fun h => (eval_put_ne (by decide)).trans (h69 h), fun h => (eval_put_ne (by decide)).trans (h70 h), fun h => (eval_put_ne (by decide)).trans (h71 h), fun h => (eval_put_ne (by decide)).trans (h73 h), fun h => (eval_put_ne (by decide)).trans (h74 h), fun h => (eval_put_ne (by decide)).trans (h75 h), fun h => (eval_put_ne (by decide)).trans (h76 h), fun h => (eval_put_ne (by decide)).trans (h77 h), fun h => (eval_put_ne (by decide)).trans (h78 h), fun h => (eval_put_ne (by decide)).trans (h79 h)⟩
      rw [eval_put_same (a := a) (d := 72) zz, eval_put_ne (a := a) (d := 72) (k := 80) (by decide), eval_put_ne (a := a) (d := 72) (k := 81) (by decide), eval_put_ne (a := a) (d := 72) (k := 6) (by decide)]
      exact htb.one hB hI
    · intro d a w9 K hd hdep ⟨hsm, htb, h66, h67, h68, h69, h70, h71, h73, h74, h75, h76, h77, h78, h79⟩ hK
      have hz : a.tmps.size = 82 := hsm.sz.trans hsz
      have hd7 : d 7 = false := hd
      rw [if_pos (by rfl)]
      have zz : 73 < a.tmps.size := by rw [hz]; decide
      have t0 := tmps_of_eval ((hsm.ev 0 (by decide)).trans f0) (by rw [hz]; decide)
      simp only [Oper.wp, execOp]
      go_simp
      show K (a.put (some 73) (.pointer (some ⟨g', 0, none⟩))) _
      refine hK.out _ _ ⟨hsm.put (by decide) _, ?_, fun h => (eval_put_ne (by decide)).trans (h66 h), fun h => (eval_put_ne (by decide)).trans (h67 h), fun h => (eval_put_ne (by decide)).trans (h68 h), fun h => (eval_put_ne (by decide)).trans (h69 h), fun h => (eval_put_ne (by decide)).trans (h70 h), fun h => (eval_put_ne (by decide)).trans (h71 h), fun _ => eval_put_same zz, fun h => (eval_put_ne (by decide)).trans (h74 h), fun h => (eval_put_ne (by decide)).trans (h75 h), fun h => (eval_put_ne (by decide)).trans (h76 h), fun h => (eval_put_ne (by decide)).trans (h77 h), fun h => (eval_put_ne (by decide)).trans (h78 h), fun h => (eval_put_ne (by decide)).trans (h79 h)⟩
      rw [eval_put_ne (a := a) (d := 73) (k := 72) (by decide), eval_put_ne (a := a) (d := 73) (k := 80) (by decide), eval_put_ne (a := a) (d := 73) (k := 81) (by decide), eval_put_ne (a := a) (d := 73) (k := 6) (by decide)]
      exact htb
    · intro d a w9 K hd hdep ⟨hsm, htb, h66, h67, h68, h69, h70, h71, h73, h74, h75, h76, h77, h78, h79⟩ hK
      have hz : a.tmps.size = 82 := hsm.sz.trans hsz
      have hd8 : d 8 = false := hd
      rw [if_pos (by rfl)]
      have zz : 74 < a.tmps.size := by rw [hz]; decide
      have d7 : d 7 = true := hdep ⟨7, .data⟩ (by simp) (by rfl)
      have t73 := tmps_of_eval (h73 d7) (by rw [hz]; decide)
      simp only [Oper.wp, execOp]
      go_simp
      show K (a.put (some 74) (.pointer (some ⟨g', 0, none⟩))) _
      refine hK.out _ _ ⟨hsm.put (by decide) _, ?_, fun h => (eval_put_ne (by decide)).trans (h66 h), fun h => (eval_put_ne (by decide)).trans (h67 h), fun h => (eval_put_ne (by decide)).trans (h68 h), fun h => (eval_put_ne (by decide)).trans (h69 h), fun h => (eval_put_ne (by decide)).trans (h70 h), fun h => (eval_put_ne (by decide)).trans (h71 h), fun h => (eval_put_ne (by decide)).trans (h73 h), fun _ => eval_put_same zz, fun h => (eval_put_ne (by decide)).trans (h75 h), fun h => (eval_put_ne (by decide)).trans (h76 h), fun h => (eval_put_ne (by decide)).trans (h77 h), fun h => (eval_put_ne (by decide)).trans (h78 h), fun h => (eval_put_ne (by decide)).trans (h79 h)⟩
      rw [eval_put_ne (a := a) (d := 74) (k := 72) (by decide), eval_put_ne (a := a) (d := 74) (k := 80) (by decide), eval_put_ne (a := a) (d := 74) (k := 81) (by decide), eval_put_ne (a := a) (d := 74) (k := 6) (by decide)]
      exact htb
    · intro d a w9 K hd hdep ⟨hsm, htb, h66, h67, h68, h69, h70, h71, h73, h74, h75, h76, h77, h78, h79⟩ hK
      have hz : a.tmps.size = 82 := hsm.sz.trans hsz
      have hd9 : d 9 = false := hd
      rw [if_pos (by rfl)]
      have zz : 75 < a.tmps.size := by rw [hz]; decide
      have d8 : d 8 = true := hdep ⟨8, .data⟩ (by simp) (by rfl)
      have t74 := tmps_of_eval (h74 d8) (by rw [hz]; decide)
      simp only [Oper.wp, execOp]
      go_simp
      show K (a.put (some 75) (.pointer (some ⟨g', 2, none⟩))) _
      refine hK.out _ _ ⟨hsm.put (by decide) _, ?_, fun h => (eval_put_ne (by decide)).trans (h66 h), fun h => (eval_put_ne (by decide)).trans (h67 h), fun h => (eval_put_ne (by decide)).trans (h68 h), fun h => (eval_put_ne (by decide)).trans (h69 h), fun h => (eval_put_ne (by decide)).trans (h70 h), fun h => (eval_put_ne (by decide)).trans (h71 h), fun h => (eval_put_ne (by decide)).trans (h73 h), fun h => (eval_put_ne (by decide)).trans (h74 h), fun _ => eval_put_same zz, fun h => (eval_put_ne (by decide)).trans (h76 h), fun h => (eval_put_ne (by decide)).trans (h77 h), fun h => (eval_put_ne (by decide)).trans (h78 h), fun h => (eval_put_ne (by decide)).trans (h79 h)⟩
      rw [eval_put_ne (a := a) (d := 75) (k := 72) (by decide), eval_put_ne (a := a) (d := 75) (k := 80) (by decide), eval_put_ne (a := a) (d := 75) (k := 81) (by decide), eval_put_ne (a := a) (d := 75) (k := 6) (by decide)]
      exact htb
    · intro d a w9 K hd hdep ⟨hsm, htb, h66, h67, h68, h69, h70, h71, h73, h74, h75, h76, h77, h78, h79⟩ hK
      have hz : a.tmps.size = 82 := hsm.sz.trans hsz
      have hd10 : d 10 = false := hd
      rw [if_pos (by rfl)]
      have zz : 76 < a.tmps.size := by rw [hz]; decide
      have d9 : d 9 = true := hdep ⟨9, .data⟩ (by simp) (by rfl)
      have t75 := tmps_of_eval (h75 d9) (by rw [hz]; decide)
      obtain ⟨x1, x2⟩ := HK.out _ htb.bl
      simp only [Oper.wp, execOp]
      go_simp
      show K (a.put (some 76) (.pointer (some ⟨gr, 0, none⟩))) _
      refine hK.out _ _ ⟨hsm.put (by decide) _, ?_, fun h => (eval_put_ne (by decide)).trans (h66 h), fun h => (eval_put_ne (by decide)).trans (h67 h), fun h => (eval_put_ne (by decide)).trans (h68 h), fun h => (eval_put_ne (by decide)).trans (h69 h), fun h => (eval_put_ne (by decide)).trans (h70 h), fun h => (eval_put_ne (by decide)).trans (h71 h), fun h => (eval_put_ne (by decide)).trans (h73 h), fun h => (eval_put_ne (by decide)).trans (h74 h), fun h => (eval_put_ne (by decide)).trans (h75 h), fun _ => eval_put_same zz, fun h => (eval_put_ne (by decide)).trans (h77 h), fun h => (eval_put_ne (by decide)).trans (h78 h), fun h => (eval_put_ne (by decide)).trans (h79 h)⟩
      rw [eval_put_ne (a := a) (d := 76) (k := 72) (by decide), eval_put_ne (a := a) (d := 76) (k := 80) (by decide), eval_put_ne (a := a) (d := 76) (k := 81) (by decide), eval_put_ne (a := a) (d := 76) (k := 6) (by decide)]
      exact htb
    · intro d a w9 K hd hdep ⟨hsm, htb, h66, h67, h68, h69, h70, h71, h73, h74, h75, h76, h77, h78, h79⟩ hK
      have hz : a.tmps.size = 82 := hsm.sz.trans hsz
      have hd11 : d 11 = false := hd
      rw [if_pos (by rfl)]
      have zz : 77 < a.tmps.size := by rw [hz]; decide
      have t2 := tmps_of_eval ((hsm.ev 2 (by decide)).trans f2) (by rw [hz]; decide)
      simp only [Oper.wp, execOp]
      go_simp
      show K (a.put (some 77) (.int .i64 (j : Int))) _
      refine hK.out _ _ ⟨hsm.put (by decide) _, ?_, fun h => (eval_put_ne (by decide)).trans (h66 h), fun h => (eval_put_ne (by decide)).trans (h67 h), fun h => (eval_put_ne (by decide)).trans (h68 h), fun h => (eval_put_ne (by decide)).trans (h69 h), fun h => (eval_put_ne (by decide)).trans (h70 h), fun h => (eval_put_ne (by decide)).trans (h71 h), fun h => (eval_put_ne (by decide)).trans (h73 h), fun h => (eval_put_ne (by decide)).trans (h74 h), fun h => (eval_put_ne (by decide)).trans (h75 h), fun h => (eval_put_ne (by decide)).trans (h76 h), fun _ => eval_put_same zz, fun h => (eval_put_ne (by decide)).trans (h78 h), fun h => (eval_put_ne (by decide)).trans (h79 h)⟩
      rw [eval_put_ne (a := a) (d := 77) (k := 72) (by decide), eval_put_ne (a := a) (d := 77) (k := 80) (by decide), eval_put_ne (a := a) (d := 77) (k := 81) (by decide), eval_put_ne (a := a) (d := 77) (k := 6) (by decide)]
      exact htb
    · intro d a w9 K hd hdep ⟨hsm, htb, h66, h67, h68, h69, h70, h71, h73, h74, h75, h76, h77, h78, h79⟩ hK
      have hz : a.tmps.size = 82 := hsm.sz.trans hsz
      have hd12 : d 12 = false := hd
      rw [if_pos (by rfl)]
      have zz : 78 < a.tmps.size := by rw [hz]; decide
      have t7 := tmps_of_eval ((hsm.ev 7 (by decide)).trans f7) (by rw [hz]; decide)
      simp only [Oper.wp, execOp]
      go_simp
      show K (a.put (some 78) (.int .i64 (m : Int))) _
      refine hK.out _ _ ⟨hsm.put (by decide) _, ?_, fun h => (eval_put_ne (by decide)).trans (h66 h), fun h => (eval_put_ne (by decide)).trans (h67 h), fun h => (eval_put_ne (by decide)).trans (h68 h), fun h => (eval_put_ne (by decide)).trans (h69 h), fun h => (eval_put_ne (by decide)).trans (h70 h), fun h => (eval_put_ne (by decide)).trans (h71 h), fun h => (eval_put_ne (by decide)).trans (h73 h), fun h => (eval_put_ne (by decide)).trans (h74 h), fun h => (eval_put_ne (by decide)).trans (h75 h), fun h => (eval_put_ne (by decide)).trans (h76 h), fun h => (eval_put_ne (by decide)).trans (h77 h), fun _ => eval_put_same zz, fun h => (eval_put_ne (by decide)).trans (h79 h)⟩
      rw [eval_put_ne (a := a) (d := 78) (k := 72) (by decide), eval_put_ne (a := a) (d := 78) (k := 80) (by decide), eval_put_ne (a := a) (d := 78) (k := 81) (by decide), eval_put_ne (a := a) (d := 78) (k := 6) (by decide)]
      exact htb
    · intro d a w9 K hd hdep ⟨hsm, htb, h66, h67, h68, h69, h70, h71, h73, h74, h75, h76, h77, h78, h79⟩ hK
      have hz : a.tmps.size = 82 := hsm.sz.trans hsz
      have hd13 : d 13 = false := hd
      rw [if_pos (by rfl)]
      have zz : 79 < a.tmps.size := by rw [hz]; decide
      have d11 : d 11 = true := hdep ⟨11, .data⟩ (by simp) (by rfl)
      have d12 : d 12 = true := hdep ⟨12, .data⟩ (by simp) (by rfl)
      have t77 := tmps_of_eval (h77 d11) (by rw [hz]; decide)
      have t78 := tmps_of_eval (h78 d12) (by rw [hz]; decide)
      have hwr : IntKind.i64.wrap ((j : Int) - (m : Int)) = (j : Int) - (m : Int) := IntWalk.i64_in _ (by omega)
      simp only [Oper.wp, execOp]
      go_simp
      show K (a.put (some 79) (.int .i64 ((j : Int) - (m : Int)))) _
      refine hK.out _ _ ⟨hsm.put (by decide) _, ?_, fun h => (eval_put_ne (by decide)).trans (h66 h), fun h => (eval_put_ne (by decide)).trans (h67 h), fun h => (eval_put_ne (by decide)).trans (h68 h), fun h => (eval_put_ne (by decide)).trans (h69 h), fun h => (eval_put_ne (by decide)).trans (h70 h), fun h => (eval_put_ne (by decide)).trans (h71 h), fun h => (eval_put_ne (by decide)).trans (h73 h), fun h => (eval_put_ne (by decide)).trans (h74 h), fun h => (eval_put_ne (by decide)).trans (h75 h), fun h => (eval_put_ne (by decide)).trans (h76 h), fun h => (eval_put_ne (by decide)).trans (h77 h), fun h => (eval_put_ne (by decide)).trans (h78 h), fun _ => eval_put_same zz⟩
      rw [eval_put_ne (a := a) (d := 79) (k := 72) (by decide), eval_put_ne (a := a) (d := 79) (k := 80) (by decide), eval_put_ne (a := a) (d := 79) (k := 81) (by decide), eval_put_ne (a := a) (d := 79) (k := 6) (by decide)]
      exact htb
    · intro d a w9 K hd hdep ⟨hsm, htb, h66, h67, h68, h69, h70, h71, h73, h74, h75, h76, h77, h78, h79⟩ hK
      have hz : a.tmps.size = 82 := hsm.sz.trans hsz
      have hd14 : d 14 = false := hd
      rw [if_pos (by rfl)]
      have zz : 80 < a.tmps.size := by rw [hz]; decide
      have d10 : d 10 = true := hdep ⟨10, .data⟩ (by simp) (by rfl)
      have d13 : d 13 = true := hdep ⟨13, .data⟩ (by simp) (by rfl)
      have t76 := tmps_of_eval (h76 d10) (by rw [hz]; decide)
      have t79 := tmps_of_eval (h79 d13) (by rw [hz]; decide)
      have d6 : d 6 = true := hdep ⟨6, .chain⟩ (by simp) (by rfl)
      rw [hd14] at htb
      simp only [Oper.wp, execOp]
      go_simp
      with_reducible refine (HR.out w9 htb.bl).mono ?_
      rintro e8 w8 ⟨vv, rfl, hI, hB⟩
      show K (a.put (some 80) _) _
      refine hK.out _ _ ⟨hsm.put (by decide) _, ?_, fun h => (eval_put_ne (by decide)).trans (h66 h), fun h => (eval_put_ne (by decide)).trans (h67 h), fun h => (eval_put_ne (by decide)).trans (h68 h), fun h => (eval_put_ne (by decide)).trans (h69 h), fun h => (eval_put_ne (by decide)).trans (h70 h), fun h => (eval_put_ne (by decide)).trans (h71 h), fun h => (eval_put_ne (by decide)).trans (h73 h), fun h => (eval_put_ne (by decide)).trans (h74 h), fun h => (eval_put_ne (by decide)).trans (h75 h), fun h => (eval_put_ne (by decide)).trans (h76 h), fun h => (eval_put_ne (by decide)).trans (h77 h), fun h => (eval_put_ne (by decide)).trans (h78 h), fun h => (eval_put_ne (by decide)).trans (h79 h)⟩
      rw [eval_put_ne (a := a) (d := 80) (k := 72) (by decide), eval_put_same (a := a) (d := 80) zz, eval_put_ne (a := a) (d := 80) (k := 81) (by decide), eval_put_ne (a := a) (d := 80) (k := 6) (by decide)]
      exact htb.two hB hI
    · intro d a w9 K hd hdep ⟨hsm, htb, h66, h67, h68, h69, h70, h71, h73, h74, h75, h76, h77, h78, h79⟩ hK
      have hz : a.tmps.size = 82 := hsm.sz.trans hsz
      have hd15 : d 15 = false := hd
      rw [if_pos (by rfl)]
      have zz : 81 < a.tmps.size := by rw [hz]; decide
      have d6 : d 6 = true := hdep ⟨6, .data⟩ (by simp) (by rfl)
      have d14 : d 14 = true := hdep ⟨14, .data⟩ (by simp) (by rfl)
      rw [hd15] at htb
      obtain ⟨vv1, hv1⟩ : ∃ v, a.eval (.tmp 72) = v := ⟨_, rfl⟩
      obtain ⟨vv2, hv2⟩ : ∃ v, a.eval (.tmp 80) = v := ⟨_, rfl⟩
      have t72 := tmps_of_eval hv1 (by rw [hz]; decide)
      have t80 := tmps_of_eval hv2 (by rw [hz]; decide)
      have hJ := join_any t1 t2 vv1 vv2 w9 (by rw [← hv1]; exact htb.a d6) (by rw [← hv2]; exact htb.b d14) hz1
      simp only [Oper.wp, execOp]
      go_simp
      with_reducible refine hJ.mono ?_
      rintro e8 w8 ⟨vv, rfl, hI, hB⟩
      show K (a.put (some 81) _) _
      refine hK.out _ _ ⟨hsm.put (by decide) _, ?_, fun h => (eval_put_ne (by decide)).trans (h66 h), fun h => (eval_put_ne (by decide)).trans (h67 h), fun h => (eval_put_ne (by decide)).trans (h68 h), fun h => (eval_put_ne (by decide)).trans (h69 h), fun h => (eval_put_ne (by decide)).trans (h70 h), fun h => (eval_put_ne (by decide)).trans (h71 h), fun h => (eval_put_ne (by decide)).trans (h73 h), fun h => (eval_put_ne (by decide)).trans (h74 h), fun h => (eval_put_ne (by decide)).trans (h75 h), fun h => (eval_put_ne (by decide)).trans (h76 h), fun h => (eval_put_ne (by decide)).trans (h77 h), fun h => (eval_put_ne (by decide)).trans (h78 h), fun h => (eval_put_ne (by decide)).trans (h79 h)⟩
      rw [eval_put_ne (a := a) (d := 81) (k := 72) (by decide), eval_put_ne (a := a) (d := 81) (k := 80) (by decide), eval_put_same (a := a) (d := 81) zz, eval_put_ne (a := a) (d := 81) (k := 6) (by decide)]
      exact htb.three hB hI
    · intro d a w9 K hd hdep ⟨hsm, htb, h66, h67, h68, h69, h70, h71, h73, h74, h75, h76, h77, h78, h79⟩ hK
      have hz : a.tmps.size = 82 := hsm.sz.trans hsz
      have hd16 : d 16 = false := hd
      rw [if_pos (by rfl)]
      have zz : 6 < a.tmps.size := by rw [hz]; decide
      have d15 : d 15 = true := hdep ⟨15, .data⟩ (by simp) (by rfl)
      rw [hd16] at htb
      obtain ⟨vv3, hv3⟩ : ∃ v, a.eval (.tmp 81) = v := ⟨_, rfl⟩
      have t81 := tmps_of_eval hv3 (by rw [hz]; decide)
      simp only [Oper.wp, execOp, hv3]
      go_simp
      show K (a.put (some 6) _) _
      refine hK.out _ _ ⟨hsm.put (by decide) _, ?_, fun h => (eval_put_ne (by decide)).trans (h66 h), fun h => (eval_put_ne (by decide)).trans (h67 h), fun h => (eval_put_ne (by decide)).trans (h68 h), fun h => (eval_put_ne (by decide)).trans (h69 h), fun h => (eval_put_ne (by decide)).trans (h70 h), fun h => (eval_put_ne (by decide)).trans (h71 h), fun h => (eval_put_ne (by decide)).trans (h73 h), fun h => (eval_put_ne (by decide)).trans (h74 h), fun h => (eval_put_ne (by decide)).trans (h75 h), fun h => (eval_put_ne (by decide)).trans (h76 h), fun h => (eval_put_ne (by decide)).trans (h77 h), fun h => (eval_put_ne (by decide)).trans (h78 h), fun h => (eval_put_ne (by decide)).trans (h79 h)⟩
      rw [eval_put_ne (a := a) (d := 6) (k := 72) (by decide), eval_put_ne (a := a) (d := 6) (k := 80) (by decide), eval_put_ne (a := a) (d := 6) (k := 81) (by decide), eval_put_same (a := a) (d := 6) zz]
      exact htb.four (by rw [← hv3]; exact htb.c d15)
  · intro d a w9 hd ⟨hsm, htb, h66, h67, h68, h69, h70, h71, h73, h74, h75, h76, h77, h78, h79⟩
    have d0 : d 0 = true := hd 0 (by simp)
    have d1 : d 1 = true := hd 1 (by simp)
    have d2 : d 2 = true := hd 2 (by simp)
    have d3 : d 3 = true := hd 3 (by simp)
    have d4 : d 4 = true := hd 4 (by simp)
    have d5 : d 5 = true := hd 5 (by simp)
    have d6 : d 6 = true := hd 6 (by simp)
    have d7 : d 7 = true := hd 7 (by simp)
    have d8 : d 8 = true := hd 8 (by simp)
    have d9 : d 9 = true := hd 9 (by simp)
    have d10 : d 10 = true := hd 10 (by simp)
    have d11 : d 11 = true := hd 11 (by simp)
    have d12 : d 12 = true := hd 12 (by simp)
    have d13 : d 13 = true := hd 13 (by simp)
    have d14 : d 14 = true := hd 14 (by simp)
    have d15 : d 15 = true := hd 15 (by simp)
    have d16 : d 16 = true := hd 16 (by simp)
    rw [d6, d14, d15, d16] at htb
    obtain ⟨hbl, _, _, _, he⟩ := htb
    have hc9 := he rfl
    clear he
    obtain ⟨vv6, hv6⟩ : ∃ v, a.eval (.tmp 6) = v := ⟨_, rfl⟩
    obtain ⟨vv1, hv1⟩ : ∃ v, a.eval (.tmp 72) = v := ⟨_, rfl⟩
    obtain ⟨vv2, hv2⟩ : ∃ v, a.eval (.tmp 80) = v := ⟨_, rfl⟩
    obtain ⟨vv3, hv3⟩ : ∃ v, a.eval (.tmp 81) = v := ⟨_, rfl⟩
    rw [hv6] at hc9
    have ha := hsm.eq
    simp only [List.foldl_cons, List.foldl_nil] at ha
    rw [h66 d0, h67 d1, h68 d2, h69 d3, h70 d4, h71 d5, hv1, h73 d7, h74 d8, h75 d9, h76 d10, h77 d11, h78 d12, h79 d13, hv2, hv3, hv6] at ha
    clear hsm h66 h67 h68 h69 h70 h71 h73 h74 h75 h76 h77 h78 h79 hv1 hv2 hv3 hv6 hd
    subst ha
    simp only [Act.put, List.setIfInBounds_toArray, List.set_cons_zero, List.set_cons_succ]
    go_wp2_with fail
    go_ret
    exact ⟨_, rfl, by rw [HX.out]; exact hc9, hbl⟩
end Go.Proofs.YtibdcnmaodmghaaGreatDoor
end
