/- The reference's Build returns the chart. -/
import Derived.Test.YthakcefgbggkcaaDoorChRSpan
import Derived.Test.YthakcefgbggkcaaDoorCMi
import Derived.Test.YthakcefgbggkcaaDoorChCount
import Derived.Deep.DeepCutAuto
namespace Go.Proofs.YthakcefgbggkcaaDoor
open Go.RowKit

theorem CO.blk {w : World} {base g c N : Nat} {own : List Cl} (h : CO w base g c N own) (_h0 : 0 < N) : ∃ cur : Array Value, Blk w g 47 cur ∧ ∀ w', Blk w' g 47 cur → CO w' base g c N own := by
  rcases h.2.2 with ⟨hv, _⟩ | ⟨g', cap, cur, hv, hb, hg, h1, h2, h3, h4⟩
  · injection hv with h1; cases h1
  · injection hv with h5 h6 h7
    injection h5 with h5
    injection h5 with h5
    subst h5
    exact ⟨cur, hg, fun w' hw => ⟨h.1, h.2.1, .inr ⟨g, cap, cur, by rw [h7], hb, hw, h1, h2, h3, h4⟩⟩⟩
theorem Blk.cl_put {w : World} {g : Nat} {t : TypeId} {l : List Cl} (h : Blk w g t (cls l).toArray) {k : Nat} (hk : k < l.length) (e : Cl) :
    Blk ((((w.setCell ⟨g, k * 4, none⟩ (.int .i64 e.v.c)).setCell ⟨g, k * 4 + 1, none⟩ (.int .i64 e.v.s)).setCell ⟨g, k * 4 + 2, none⟩ (.int .i64 e.r)).setCell ⟨g, k * 4 + 3, none⟩ (.int .i64 e.a)) g t (cls (l.set k e)).toArray := by
  have := (((h.set_ (k * 4) (.int .i64 e.v.c)).set_ (k * 4 + 1) (.int .i64 e.v.s)).set_ (k * 4 + 2) (.int .i64 e.r)).set_ (k * 4 + 3) (.int .i64 e.a)
  rw [← cls_put l k e hk]
  simpa using this
theorem ow_nil (cs : List Cl) (o : Nat) : ow cs o [] = cs := by simp [ow]
theorem ow_next {cs l : List Cl} {o i : Nat} {x : Cl} (h : o + l.length ≤ cs.length) (hx : l[i]? = some x) : (ow cs o (l.take i)).set (o + i) x = ow cs o (l.take (i + 1)) := by
  have hi : i < l.length := (List.getElem?_eq_some_iff.1 hx).1
  have h1 : (l.take i).length = i := by simp; omega
  have h2 : (l.take (i + 1)).length = i + 1 := by simp; omega
  have hl := ow_len (cs := cs) (o := o) (l := l.take i) (by omega)
  apply List.ext_getElem?
  intro j
  rw [List.getElem?_set, hl]
  by_cases e : o + i = j
  · subst e
    rw [if_pos rfl, if_pos (by omega), ow_in (by omega) (by omega), List.getElem?_take, if_pos (by omega), hx]
  · rw [if_neg e]
    by_cases hj : o ≤ j ∧ j < o + i
    · obtain ⟨d, rfl⟩ : ∃ d, j = o + d := ⟨j - o, by omega⟩
      rw [ow_in (by omega) (by omega), ow_in (by omega) (by omega), List.getElem?_take, List.getElem?_take, if_pos (by omega), if_pos (by omega)]
    · rw [ow_out (by omega) (by omega), ow_out (by omega) (by omega)]
/-- What the reference's Build holds in memory. -/
structure RBm (w0 w : World) (bn p g : Nat) (k1 k2 : Array Value) (N S nc : Nat) (cs : List Cl) : Prop where
  k1 : Blk w bn 24 k1
  k2 : Blk w (bn + 1) 28 k2
  k3 : Blk w (bn + 1 + 1) 34 #[.int .i64 0, .int .i64 0, .slice none 0 0]
  k4 : Blk w p 34 #[.int .i64 N, .int .i64 S, .slice (some ⟨g, 0, none⟩) nc nc]
  k5 : Blk w g 47 (cls cs).toArray
  lp : bn + 1 + 1 < p ∧ bn + 1 + 1 < g ∧ p ≠ g
  len : cs.length = nc
  below : Below bn w0 w
section
variable {w0 w w' : World} {bn p g : Nat} {k1 k2 : Array Value} {N S nc : Nat} {cs : List Cl}
theorem RBm.next (h : RBm w0 w bn p g k1 k2 N S nc cs) (hb : Below w.heap.size w w') : RBm w0 w' bn p g k1 k2 N S nc cs :=
  ⟨h.k1.below hb h.k1.lt, h.k2.below hb h.k2.lt, h.k3.below hb h.k3.lt, h.k4.below hb h.k4.lt, h.k5.below hb h.k5.lt, h.lp, h.len, h.below.trans (hb.mono (by have := h.k1.lt; omega))⟩
theorem far4 {t : TypeId} {ks : Array Value} {b : Nat} (hb : Blk w b t ks) (hne : b ≠ g) (i : Nat) (e : Cl) :
    Blk ((((w.setCell ⟨g, i * 4, none⟩ (.int .i64 e.v.c)).setCell ⟨g, i * 4 + 1, none⟩ (.int .i64 e.v.s)).setCell ⟨g, i * 4 + 2, none⟩ (.int .i64 e.r)).setCell ⟨g, i * 4 + 3, none⟩ (.int .i64 e.a)) b t ks :=
  (((hb.far (p := ⟨g, i * 4, none⟩) hne _).far (p := ⟨g, i * 4 + 1, none⟩) hne _).far (p := ⟨g, i * 4 + 2, none⟩) hne _).far (p := ⟨g, i * 4 + 3, none⟩) hne _
theorem RBm.put (h : RBm w0 w bn p g k1 k2 N S nc cs) {i : Nat} (hi : i < nc) (e : Cl) :
    RBm w0 ((((w.setCell ⟨g, i * 4, none⟩ (.int .i64 e.v.c)).setCell ⟨g, i * 4 + 1, none⟩ (.int .i64 e.v.s)).setCell ⟨g, i * 4 + 2, none⟩ (.int .i64 e.r)).setCell ⟨g, i * 4 + 3, none⟩ (.int .i64 e.a)) bn p g k1 k2 N S nc (cs.set i e) := by
  have hg := h.lp
  exact ⟨far4 h.k1 (by omega) i e, far4 h.k2 (by omega) i e, far4 h.k3 (by omega) i e, far4 h.k4 hg.2.2 i e, h.k5.cl_put (by rw [h.len]; exact hi) e, hg, by rw [List.length_set]; exact h.len,
    (((h.below.setCell (p := ⟨g, i * 4, none⟩) (by show bn ≤ g; omega) _).setCell (p := ⟨g, i * 4 + 1, none⟩) (by show bn ≤ g; omega) _).setCell (p := ⟨g, i * 4 + 2, none⟩) (by show bn ≤ g; omega) _).setCell (p := ⟨g, i * 4 + 3, none⟩) (by show bn ≤ g; omega) _⟩
end
/-- What the reference's Build returns: a chart in a block of its own. -/
def RBuildPost (w : World) (R : List Rl) (L : List Ar) (N S : Nat) (e : Ending) (w' : World) : Prop := ∃ (g nc : Nat) (cs : List Cl), e = .returned (.agg #[.int .i64 N, .int .i64 S, .slice (some ⟨g, 0, none⟩) nc nc]) ∧ nc = tri S S * N ∧ Blk w' g 47 (cls cs).toArray ∧ w.heap.size ≤ g ∧ Chart R L N S cs ∧ Below w.heap.size w w'
set_option maxRecDepth 100000 in
set_option maxHeartbeats 8000000 in
theorem rbuild_any (w : World) (T st : Int) (N S nR rc nL lc nf fc B : Nat) (RA LA FA : Option Addr) (R : List Rl) (L : List Ar)
    (hR : Reads w B 6 RA nR (rls R)) (hL : Reads w B 5 LA nL (ars L)) (hB : B ≤ w.heap.size)
    (hN0 : 0 < N) (hN : N ≤ 1000) (hS : S ≤ 60) (hnR : nR ≤ 60) (hnL : nL ≤ 60) (hok : ∀ r ∈ R, r.Ok N) (hLok : ArsOk S L) :
    Calls Tryd.prog 15 #[.agg #[.int .i64 T, .int .i64 N, .int .i64 st, .slice RA nR rc], .agg #[.int .i64 S, .slice LA nL lc, .slice FA nf fc]] w (RBuildPost w R L N S) := by
  obtain ⟨nc, hnc⟩ : ∃ nc, tri S S * N = nc := ⟨_, rfl⟩
  have hncb : nc ≤ 4000000 := by
    have h1 := tri_le S S
    have h2 : S * S ≤ 60 * 60 := Nat.mul_le_mul hS hS
    have h3 : tri S S * N ≤ 3600 * 1000 := Nat.mul_le_mul (by omega) hN
    omega
  have HCNT : Hid (∀ w9 : World, Calls Tryd.prog 34 #[.int .i64 N, .int .i64 S] w9 fun e w' => e = .returned (.int .i64 nc) ∧ Below w9.heap.size w9 w') := fun w9 => by
    rw [← hnc]
    exact count_any w9 N S hN (by omega)
  have mk := run_make_cls nc (by omega)
  have HNC := Lib.hid hnc
  have HOK := Lib.hid hok
  have HLO := Lib.hid hLok
  obtain ⟨bn, hbn⟩ : ∃ bn, w.heap.size = bn := ⟨_, rfl⟩
  obtain ⟨k1, hk1⟩ : ∃ k1 : Array Value, #[.int .i64 T, .int .i64 N, .int .i64 st, .slice RA nR rc] = k1 := ⟨_, rfl⟩
  obtain ⟨k2, hk2⟩ : ∃ k2 : Array Value, #[.int .i64 S, .slice LA nL lc, .slice FA nf fc] = k2 := ⟨_, rfl⟩
  obtain ⟨W, hW⟩ : ∃ W, (((w.alloc (.cells #[.int .i64 T, .int .i64 N, .int .i64 st, .slice RA nR rc] 24)).alloc (.cells #[.int .i64 S, .slice LA nL lc, .slice FA nf fc] 28)).alloc (.cells #[.int .i64 0, .int .i64 0, .slice none 0 0] 34)) = W := ⟨_, rfl⟩
  have HX : Hid (Blk W bn 24 k1 ∧ Blk W (bn + 1) 28 k2 ∧ Blk W (bn + 1 + 1) 34 #[.int .i64 0, .int .i64 0, .slice none 0 0] ∧ Below bn w W ∧ W.heap.size = bn + 1 + 1 + 1) := by
    rw [← hW, ← hk1, ← hk2]
    refine ⟨((Blk.new' w _ _ hbn).alloc _).alloc _, (Blk.new' _ _ _ (by simp; omega)).alloc _, Blk.new' _ _ _ (by simp; omega), ?_, by simp; omega⟩
    exact (((Below.refl _ _).alloc (by omega) _).alloc (by simp; omega) _).alloc (by simp; omega) _
  have HR := Lib.hid (hR.more (show B ≤ bn by omega))
  have HL := Lib.hid (hL.more (show B ≤ bn by omega))
  have HK := Lib.hid (And.intro hk1 hk2)
  have HW := Lib.hid hW
  have HBN := Lib.hid hbn
  have H9 : Hid (∀ w', Below W.heap.size W w' → w'.cell? ⟨bn, 1, none⟩ = some (.int .i64 N) ∧ w'.cell? ⟨bn + 1, 0, none⟩ = some (.int .i64 S)) := fun w9 h9 => by
    have a1 := (HX.out.1.below h9 HX.out.1.lt).cell 1
    have a2 := (HX.out.2.1.below h9 HX.out.2.1.lt).cell 0
    rw [← HK.out.1] at a1
    rw [← HK.out.2] at a2
    exact ⟨a1, a2⟩
  clear hR hL hB hk1 hk2 hW hok hLok hnc
  go_enter Tryd.func15, Tryd.ntmps15
  go_upto_region 1 with fail
  try rw [hbn]
  rw [HW.out]
  have B8 : Below W.heap.size W W.drew := (Below.refl _ _).drew
  go_cut [5] (fun x5 wx => ∃ p g : Nat, x5 = .pointer (some ⟨p, 0, none⟩) ∧ Blk wx p 34 #[.int .i64 N, .int .i64 S, .slice (some ⟨g, 0, none⟩) nc nc] ∧ Blk wx g 47 (cls (List.replicate nc ⟨⟨0, 0⟩, 0, 0⟩)).toArray ∧ W.heap.size ≤ p ∧ W.heap.size ≤ g ∧ p ≠ g ∧ Below W.heap.size W wx)
  case first =>
    have B8a : Below W.heap.size W (W.alloc (.cells #[.int .i64 0, .int .i64 0, .slice none 0 0] 34)).drew := ((Below.refl _ W).alloc (Nat.le_refl _) _).drew
    have Z8 : Blk (W.alloc (.cells #[.int .i64 0, .int .i64 0, .slice none 0 0] 34)).drew W.heap.size 34 #[.int .i64 0, .int .i64 0, .slice none 0 0] := (Blk.new' W _ _ rfl).drew1
    have hz8 : W.heap.size < (W.alloc (.cells #[.int .i64 0, .int .i64 0, .slice none 0 0] 34)).drew.heap.size := Z8.lt
    go_region_held3 (fun w' => w'.cell? ⟨bn, 1, none⟩ = some (.int .i64 N) ∧ w'.cell? ⟨bn + 1, 0, none⟩ = some (.int .i64 S))
      (first | exact H9.out _ B8 | exact H9.out _ B8a | exact H9.out _ X5 | exact H9.out _ (X5.alloc hz5 _) | exact H9.out _ ((X5.alloc hz5 _).alloc (by simp; omega) _) | exact H9.out _ ((((X5.alloc hz5 _).setCell (p := ⟨W.heap.size, 0, none⟩) (Nat.le_refl _) _).setCell (p := ⟨W.heap.size, 1, none⟩) (Nat.le_refl _) _).setCell (p := ⟨W.heap.size, 2, none⟩) (Nat.le_refl _) _) | exact H9.out _ ((((X5.setCell (p := ⟨W.heap.size, 0, none⟩) (Nat.le_refl _) _).setCell (p := ⟨W.heap.size, 1, none⟩) (Nat.le_refl _) _).setCell (p := ⟨W.heap.size, 2, none⟩) (Nat.le_refl _) _).alloc (by simp; omega) _))
      (first
        | (go_at_call 34; (with_reducible refine (HCNT.out _).mono ?_); rintro e5 w5 ⟨rfl, hb5⟩; have X5 : Below W.heap.size W w5 := B8.trans (hb5.mono (Nat.le_refl _)); have hz5 : W.heap.size ≤ w5.heap.size := X5.size)
        | (go_at_call 34; (with_reducible refine (HCNT.out _).mono ?_); rintro e5 w5 ⟨rfl, hb5⟩; have X5 : Below W.heap.size W w5 := B8a.trans (hb5.mono (Nat.le_of_lt hz8)); have hz5 : W.heap.size ≤ w5.heap.size := X5.size; have Z5 := Z8.below hb5 hz8; have m0 := Z5.cell 0; have m1 := Z5.cell 1; have m2 := Z5.cell 2; simp at m0 m1 m2; have f0 := Z5.frozen 0; have f1 := Z5.frozen 1; have f2 := Z5.frozen 2; have hzl := Z5.lt))
    all_goals
      go_wp2_with fail
      go_meet
    · exact ⟨_, _, rfl, Blk.new' _ _ _ (by simp), (Blk.new' w5 _ _ rfl).alloc _, by omega, hz5, by omega, (X5.alloc hz5 _).alloc (by simp; omega) _⟩
    · exact ⟨_, _, rfl, (Blk.new' w5 _ _ rfl).alloc _, Blk.new' _ _ _ (by simp), hz5, by omega, by omega, (X5.alloc hz5 _).alloc (by simp; omega) _⟩
    · exact ⟨_, _, rfl, (((Z5.set_ 0 (.int .i64 N)).set_ 1 (.int .i64 S)).set_ 2 _).alloc _, Blk.new' _ _ _ (by simp), Nat.le_refl _, hz5, by omega, (((X5.setCell (p := ⟨W.heap.size, 0, none⟩) (Nat.le_refl _) _).setCell (p := ⟨W.heap.size, 1, none⟩) (Nat.le_refl _) _).setCell (p := ⟨W.heap.size, 2, none⟩) (Nat.le_refl _) _).alloc (by simp; omega) _⟩
  case rest =>
    obtain ⟨p, g, rfl, hk4, hk5, hp, hg, hpg, hbc⟩ := hcut
    rename World => w2
    have hsz := HX.out.2.2.2.2
    have HRM0 : Hid (RBm w w2 bn p g k1 k2 N S nc (List.replicate nc ⟨⟨0, 0⟩, 0, 0⟩)) :=
      ⟨HX.out.1.below hbc HX.out.1.lt, HX.out.2.1.below hbc HX.out.2.1.lt, HX.out.2.2.1.below hbc HX.out.2.2.1.lt, hk4, hk5, ⟨by omega, by omega, hpg⟩, by simp, HX.out.2.2.2.1.trans (hbc.mono (by omega))⟩
    have HGR0 : Hid (Grid R L N S 0 0 (List.replicate nc ⟨⟨0, 0⟩, 0, 0⟩)) := Grid.start (by rw [List.length_replicate]; exact HNC.out.symm) (fun c hc => by obtain ⟨_, rfl⟩ := List.mem_replicate.1 hc; exact ⟨by unfold Ordy; simp, fun h => by simp at h⟩)
    clear hk4 hk5 hp hg hpg hbc hsz B8 mk H9 HX
    go_wp2_with fail
    go_loopw [6] (fun x wr => ∃ d : Nat, d ≤ S ∧ x = .int .i64 d ∧ ∃ cs, Hid (RBm w wr bn p g k1 k2 N S nc cs) ∧ Hid (Grid R L N S d 0 cs)) (fun x _ => S - (intOf x).toNat)
    case atStart => exact ⟨0, Nat.zero_le _, rfl, _, HRM0, HGR0⟩
    case round =>
      obtain ⟨d, hd, rfl, cs, HM, HGR⟩ := hrel
      clear HRM0 HGR0
      have l0 : wr.cell? ⟨bn + 1, 0, none⟩ = some (.int .i64 S) := by have := HM.out.k2.cell 0; rw [← HK.out.2] at this; simpa using this
      by_cases hlt : d < S
      case neg => as_aux_lemma =>
        have hltD : decide (d < S) = false := by simp [hlt]
        obtain rfl : S = d := by omega
        clear hlt hd
        have c0 := HM.out.k4.cell 0
        have c1 := HM.out.k4.cell 1
        have c2 := HM.out.k4.cell 2
        have r0 := HM.out.k3.cell 0
        have r1 := HM.out.k3.cell 1
        have r2 := HM.out.k3.cell 2
        have z0 := HM.out.k3.frozen 0
        have z1 := HM.out.k3.frozen 1
        have z2 := HM.out.k3.frozen 2
        simp at c0 c1 c2 r0 r1 r2
        have n0 := HM.out.lp
        have k5 := ((HM.out.k5.far (p := ⟨bn + 1 + 1, 0, none⟩) (by show g ≠ bn + 1 + 1; omega) (.int .i64 N)).far (p := ⟨bn + 1 + 1, 1, none⟩) (by show g ≠ bn + 1 + 1; omega) (.int .i64 S)).far (p := ⟨bn + 1 + 1, 2, none⟩) (by show g ≠ bn + 1 + 1; omega) (.slice (some ⟨g, 0, none⟩) nc nc)
        have r3 := ((HM.out.k3.set_ 0 (.int .i64 N)).set_ 1 (.int .i64 S)).set_ 2 (.slice (some ⟨g, 0, none⟩) nc nc)
        have HK5 := Lib.hid k5
        have HR3 := Lib.hid r3
        have HN0 := Lib.hid n0
        clear k5 r3 n0
        go_wp2_with fail
        refine bodyPost_ret (results_chart rfl rfl (HR3.out.cell 0) (HR3.out.cell 1) (HR3.out.cell 2)) rfl ⟨g, nc, cs, rfl, HNC.out.symm, HK5.out, ?_, HGR.out, ?_⟩
        · rw [HBN.out]; have := HN0.out; omega
        · rw [HBN.out]
          exact ((HM.out.below.setCell (p := ⟨bn + 1 + 1, 0, none⟩) (by show bn ≤ bn + 1 + 1; omega) _).setCell (p := ⟨bn + 1 + 1, 1, none⟩) (by show bn ≤ bn + 1 + 1; omega) _).setCell (p := ⟨bn + 1 + 1, 2, none⟩) (by show bn ≤ bn + 1 + 1; omega) _
      case pos =>
        have hltD : decide (d < S) = true := by simp [hlt]
        go_upto_region 5 with fail
        go_wp2_with fail
        clear l0
        rename World => w3
        go_loopw [7] (fun x wr => ∃ f : Nat, f + d ≤ S ∧ x = .int .i64 f ∧ ∃ cs, Hid (RBm w wr bn p g k1 k2 N S nc cs) ∧ Hid (Grid R L N S d f cs)) (fun x _ => S - (intOf x).toNat)
        case atStart => exact ⟨0, by omega, rfl, cs, HM, HGR⟩
        case round =>
          obtain ⟨f, hf, rfl, cs, HM1, HGR1⟩ := hrel
          clear HM HGR
          have l0 : wr.cell? ⟨bn + 1, 0, none⟩ = some (.int .i64 S) := by have := HM1.out.k2.cell 0; rw [← HK.out.2] at this; simpa using this
          have uw : IntKind.i64.wrap ((f : Int) + (d : Int)) = (f : Int) + (d : Int) := IntWalk.i64_in _ (by omega)
          by_cases hfs : f + d < S
          case neg => as_aux_lemma =>
            have hD1 : decide ((f : Int) + (d : Int) < (S : Int)) = false := by simp; omega
            have HGU := Lib.hid (HGR1.out.up (by omega))
            go_wp2_with fail
            go_roundw
            case rel => exact ⟨d + 1, by omega, by go_num, cs, HM1, HGU⟩
            case measure => simp [intOf]; omega
          case pos =>
            have hD1 : decide ((f : Int) + (d : Int) < (S : Int)) = true := by simp; omega
            obtain ⟨o, ho⟩ : ∃ o, cix S f (f + d) = o := ⟨_, rfl⟩
            have hroom := cix_room (N := N) (s := f) (t := f + d) (by omega) hfs
            rw [ho, HNC.out] at hroom
            obtain ⟨q, hq⟩ : ∃ q, o * N = q := ⟨_, rfl⟩
            rw [hq] at hroom
            have HQ := Lib.hid hq
            have n0 : wr.cell? ⟨bn, 0, none⟩ = some (.int .i64 T) := by have := HM1.out.k1.cell 0; rw [← HK.out.1] at this; simpa using this
            have n1 : wr.cell? ⟨bn, 1, none⟩ = some (.int .i64 N) := by have := HM1.out.k1.cell 1; rw [← HK.out.1] at this; simpa using this
            have n2 : wr.cell? ⟨bn, 2, none⟩ = some (.int .i64 st) := by have := HM1.out.k1.cell 2; rw [← HK.out.1] at this; simpa using this
            have n3 : wr.cell? ⟨bn, 3, none⟩ = some (.slice RA nR rc) := by have := HM1.out.k1.cell 3; rw [← HK.out.1] at this; simpa using this
            have l1 : wr.cell? ⟨bn + 1, 1, none⟩ = some (.slice LA nL lc) := by have := HM1.out.k2.cell 1; rw [← HK.out.2] at this; simpa using this
            have l2 : wr.cell? ⟨bn + 1, 2, none⟩ = some (.slice FA nf fc) := by have := HM1.out.k2.cell 2; rw [← HK.out.2] at this; simpa using this
            have c0 := HM1.out.k4.cell 0
            have c1 := HM1.out.k4.cell 1
            have c2 := HM1.out.k4.cell 2
            simp at c0 c1 c2
            have hszr : bn ≤ wr.heap.size := by have := HM1.out.k1.lt; omega
            have HSP : Hid (Calls Tryd.prog 22 #[.agg #[.int .i64 T, .int .i64 N, .int .i64 st, .slice RA nR rc], .agg #[.int .i64 S, .slice LA nL lc, .slice FA nf fc], .agg #[.int .i64 N, .int .i64 S, .slice (some ⟨g, 0, none⟩) nc nc], .int .i64 f, .int .i64 ((f : Int) + (d : Int))] wr (RSpanPost wr R L N f (f + d) (CC N S cs))) := by
              have h := rspan_any wr T st N S nR rc nL lc nf fc nc nc wr.heap.size f (f + d) RA LA FA (some ⟨g, 0, none⟩) R L cs ((HR.out.below HM1.out.below).more hszr) ((HL.out.below HM1.out.below).more hszr) (Reads.of_cls HM1.out.k5 HM1.out.len) (Nat.le_refl _) hN0 hN hS (by omega) hnR hnL (by omega) hfs HOK.out HLO.out HGR1.out.nrm
              rw [Int.natCast_add] at h
              exact h
            have HIX : Hid (∀ w9 : World, Calls Tryd.prog 20 #[.int .i64 N, .int .i64 S, .int .i64 f, .int .i64 ((f : Int) + (d : Int))] w9 fun e w' => e = .returned (.int .i64 q) ∧ Below w9.heap.size w9 w') := fun w9 => by
              have h := rindex_any N S f (f + d) w9 (by omega) hfs (by omega) (by omega)
              rw [ho, hq, Int.natCast_add] at h
              exact h
            have HO := Lib.hid ho
            clear ho hq
            go_upto_region 8 with fail
            go_upto_region 9 with (go_at_call 22; (with_reducible refine HSP.out.mono ?_); rintro e w6 ⟨g2, c2', own, U, rfl, hco, hsol, hown, hb6⟩; have HCO := Lib.hid hco; have HSOL := Lib.hid hsol; have HOWN := Lib.hid hown; have HM6 := Lib.hid (HM1.out.next hb6); clear hco hsol hown)
            have hgg : wr.heap.size ≤ g2 := HCO.out.lt.1
            have hg1 := HM1.out.k5.lt
            have hp1 := HM1.out.k4.lt
            have HNE : Hid (g2 ≠ g) := by show g2 ≠ g; omega
            have n1 : w6.cell? ⟨bn, 1, none⟩ = some (.int .i64 N) := by have := HM6.out.k1.cell 1; rw [← HK.out.1] at this; simpa using this
            have l0 : w6.cell? ⟨bn + 1, 0, none⟩ = some (.int .i64 S) := by have := HM6.out.k2.cell 0; rw [← HK.out.2] at this; simpa using this
            clear hb6 n0 n2 n3 l1 l2 c0 c1 c2 HSP hszr hgg hg1 hp1
            go_upto_region 10 with (go_at_call 20; (with_reducible refine (HIX.out _).mono ?_); rintro e w7 ⟨rfl, hb7⟩; have HM7 := Lib.hid (HM6.out.next hb7); have HCO7 := Lib.hid (HCO.out.below hb7); clear hb7)
            clear n1 l0
            obtain ⟨cur, hcur, hcof⟩ := HCO7.out.blk hN0
            have HCUR := Lib.hid hcur
            have HCOF := Lib.hid hcof
            have hol : own.length = N := HCO.out.1
            have HOL := Lib.hid hol
            have hcl : cs.length = nc := HM1.out.len
            have HW0 : Hid (RBm w w7 bn p g k1 k2 N S nc (ow cs q (own.take 0))) := by rw [List.take_zero, ow_nil]; exact HM7.out
            have HCL := Lib.hid hcl
            clear hcur hcof hol hcl HCO HCO7 HM6 HM7 HIX
            go_wp2_with fail
            go_loopw [10] (fun x wr => ∃ i : Nat, i ≤ N ∧ x = .int .i64 i ∧ Hid (RBm w wr bn p g k1 k2 N S nc (ow cs q (own.take i))) ∧ Hid (Blk wr g2 47 cur)) (fun x _ => N - (intOf x).toNat)
            case atStart => exact ⟨0, Nat.zero_le _, rfl, HW0, HCUR⟩
            case round =>
              obtain ⟨i, hi, rfl, HM8, HC8⟩ := hrel
              clear HW0 HCUR
              by_cases hiN : i < N
              case neg => as_aux_lemma =>
                have hltD2 : decide (i < N) = false := by simp [hiN]
                obtain rfl : N = i := by omega
                have htk : own.take N = own := List.take_of_length_le (by rw [HOL.out]; exact Nat.le_refl _)
                have HG2 : Hid (Grid R L N S d (f + 1) (ow cs q (own.take N))) := by
                  have h := HGR1.out.step HOK.out hfs HSOL.out
                  rw [HO.out, HQ.out, ← HOWN.out] at h
                  rw [htk]
                  exact h
                clear hiN hi htk
                go_wp2_with fail
                go_roundw
                case rel => exact ⟨f + 1, by omega, by go_num, _, HM8, HG2⟩
                case measure => simp [intOf]; omega
              case pos =>
                have hltD2 : decide (i < N) = true := by simp [hiN]
                obtain ⟨x, hx, x0, x1, x2, x3⟩ := (HCOF.out _ HC8.out).cell hiN
                have hnx := ow_next (cs := cs) (l := own) (o := q) (by rw [HOL.out, HCL.out]; exact hroom) hx
                have HNX := Lib.hid hnx
                have hqi : q + i < nc := by omega
                obtain ⟨y, hy⟩ : ∃ y, (ow cs q (own.take i))[q + i]? = some y := ⟨_, List.getElem?_eq_getElem (by rw [HM8.out.len]; exact hqi)⟩
                obtain ⟨_, _, y', hA, _, hy', y0, y1, y2, y3⟩ := (Reads.of_cls HM8.out.k5 HM8.out.len).cl_at hqi
                injection hA with hA
                injection hA with h1 h2
                subst h1 h2
                simp only [Nat.zero_add] at y0 y1 y2 y3
                have z0 := HM8.out.k5.frozen ((q + i) * 4)
                have z1 := HM8.out.k5.frozen ((q + i) * 4 + 1)
                have z2 := HM8.out.k5.frozen ((q + i) * 4 + 2)
                have z3 := HM8.out.k5.frozen ((q + i) * 4 + 3)
                have c2 := HM8.out.k4.cell 2
                simp at c2
                have uq : IntKind.i64.wrap ((q : Int) + (i : Int)) = (q : Int) + (i : Int) := IntWalk.i64_in _ (by omega)
                have ui : IntKind.i64.wrap ((i : Int) + 1) = (i : Int) + 1 := IntWalk.i64_in _ (by omega)
                have hqI : (q : Int) + (i : Int) < (nc : Int) := by omega
                have hq0 : (0 : Int) ≤ (q : Int) + (i : Int) := by omega
                have hqT : ((q : Int) + (i : Int)).toNat = q + i := by omega
                clear hnx hx hy hy'
                go_upto_region 13 with fail
                go_region
                all_goals
                  go_wp2_with fail
                  go_roundw
                  case rel => exact ⟨i + 1, by omega, by go_num, by rw [← HNX.out]; exact (HM8.out.next ((Below.refl _ _).drew)).put hqi x, far4 (HC8.out.below ((Below.refl _ _).drew) HC8.out.lt) HNE.out (q + i) x⟩
                  case measure => simp [intOf]; omega
theorem Chart.len_ {R : List Rl} {L : List Ar} {N S : Nat} {cs : List Cl} (h : Chart R L N S cs) : cs.length = tri S S * N := Grid.len h
theorem Chart.nrm_ {R : List Rl} {L : List Ar} {N S : Nat} {cs : List Cl} (h : Chart R L N S cs) : ∀ c ∈ cs, Nrm c.v := Grid.nrm h
end Go.Proofs.YthakcefgbggkcaaDoor
