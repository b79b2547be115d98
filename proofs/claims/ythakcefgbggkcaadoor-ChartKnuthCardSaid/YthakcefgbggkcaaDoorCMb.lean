/- Goal; the example's chart; copies of cells. -/
import Derived.Test.YthakcefgbggkcaaDoorCMa
import Derived.Laws.CopyOwn
import Derived.Shelf.Spec.SlicesInsert
import Derived.Deep.OwnRows
namespace Go.Proofs.YthakcefgbggkcaaDoor
open Go.RowKit

/-- One final state. -/
def gst (N S : Nat) (st : Int) (cs : List Cl) (b : Vl × Int) (t : Nat) (f : Int) : Vl × Int :=
  if f < 1099511627776 ∧ (comb f [(atC N S cs ⟨st, 0, t⟩).v]).c < 1099511627776 ∧ (b.2 < 0 ∨ vlt (comb f [(atC N S cs ⟨st, 0, t⟩).v]).c (comb f [(atC N S cs ⟨st, 0, t⟩).v]).s b.1.c b.1.s = true) then (comb f [(atC N S cs ⟨st, 0, t⟩).v], t) else b
/-- The goal over the first i final states. -/
def gto (N S : Nat) (st : Int) (cs : List Cl) (fs : List Int) : Nat → Vl × Int
  | 0 => (vtop, -1)
  | i + 1 => gst N S st cs (gto N S st cs fs i) i (fs[i]?.getD 0)
structure GM (w0 w : World) (bn : Nat) (k1 k2 k3 : Array Value) (v : Vl) : Prop where
  k1 : Blk w bn 24 k1
  k2 : Blk w (bn + 1) 28 k2
  k3 : Blk w (bn + 2) 34 k3
  k4 : Blk w (bn + 3) 45 #[.int .i64 0, .int .i64 0]
  k5 : Blk w (bn + 4) 45 #[.int .i64 v.c, .int .i64 v.s]
  below : Below bn w0 w
theorem GM.next {w0 w w' : World} {bn : Nat} {k1 k2 k3 : Array Value} {v : Vl} (h : GM w0 w bn k1 k2 k3 v) (hb : Below w.heap.size w w') : GM w0 w' bn k1 k2 k3 v :=
  ⟨h.k1.below hb h.k1.lt, h.k2.below hb h.k2.lt, h.k3.below hb h.k3.lt, h.k4.below hb h.k4.lt, h.k5.below hb h.k5.lt, h.below.trans (hb.mono (by have := h.k1.lt; omega))⟩
theorem GM.put {w0 w : World} {bn : Nat} {k1 k2 k3 : Array Value} {v : Vl} (h : GM w0 w bn k1 k2 k3 v) (u : Vl) : GM w0 ((w.setCell ⟨bn + 4, 0, none⟩ (.int .i64 u.c)).setCell ⟨bn + 4, 1, none⟩ (.int .i64 u.s)) bn k1 k2 k3 u := by
  have f : ∀ {g : Nat} {t : TypeId} {cs : Array Value}, g ≠ bn + 4 → Blk w g t cs → Blk ((w.setCell ⟨bn + 4, 0, none⟩ (.int .i64 u.c)).setCell ⟨bn + 4, 1, none⟩ (.int .i64 u.s)) g t cs := fun hg h => (h.far (p := ⟨bn + 4, 0, none⟩) hg _).far (p := ⟨bn + 4, 1, none⟩) hg _
  exact ⟨f (by omega) h.k1, f (by omega) h.k2, f (by omega) h.k3, f (by omega) h.k4, h.k5.set2 _ _, (h.below.setCell (p := ⟨bn + 4, 0, none⟩) (by show bn ≤ bn + 4; omega) _).setCell (p := ⟨bn + 4, 1, none⟩) (by show bn ≤ bn + 4; omega) _⟩
theorem reads_one (w : World) (v : Vl) : Reads (w.alloc (.cells #[.int .i64 v.c, .int .i64 v.s] 45)) (w.heap.size + 1) 2 (some ⟨w.heap.size, 0, none⟩) 1 (vls [v]) :=
  ⟨rfl, fun _ => ⟨w.heap.size, 0, rfl, Nat.lt_succ_self _, fun j u hu => by
    rw [Nat.zero_add, (Blk.new' w _ _ rfl).cell]
    simpa [vls, Vl.cells] using hu⟩⟩
theorem results_goal {fn : Func} {p q : Tmp} (h : fn.results = #[.cell p 45, .tmp q]) {tmps : Array Value} {b : Nat} {y : Value} (hp : tmps.getD p undef = .pointer (some ⟨b, 0, none⟩)) (hq : tmps.getD q undef = y) {w : World} {c s : Int}
    (h0 : w.cell? ⟨b, 0, none⟩ = some (.int .i64 c)) (h1 : w.cell? ⟨b, 1, none⟩ = some (.int .i64 s)) : (results fn tmps).run Tryd.prog w = .ok (.tuple #[.agg #[.int .i64 c, .int .i64 s], y]) w := by
  simp only [results, h]
  have e1 : tmps[p]?.getD undef = .pointer (some ⟨b, 0, none⟩) := by rw [← hp]; simp
  have e2 : tmps[q]?.getD undef = y := by rw [← hq]; simp
  simp [e1, e2, asAddr, go_sem, h0, h1]
set_option maxRecDepth 100000 in
set_option maxHeartbeats 8000000 in
theorem goal_any (w : World) (T st : Int) (N S nR rc nL lc nf fc nc cc B : Nat) (RA LA FA CA : Option Addr) (fs : List Int) (cs : List Cl) (hF : Reads w B 1 FA nf (ints fs)) (hC : Reads w B 4 CA nc (cls cs)) (hB : B ≤ w.heap.size) (hg : NoneAt w)
    (hN : N ≤ 10000) (hS : S ≤ 10000) (hnc : nc ≤ 1000000000) (hnf : nf ≤ 10000) (hf : ∀ f ∈ fs, 0 ≤ f) (hcs : ∀ x, Ordy (atC N S cs x).v) :
    Calls Tryd.prog 19 #[.agg #[.int .i64 T, .int .i64 N, .int .i64 st, .slice RA nR rc], .agg #[.int .i64 S, .slice LA nL lc, .slice FA nf fc], .agg #[.int .i64 N, .int .i64 S, .slice CA nc cc]] w fun e w' =>
      e = .returned (.tuple #[.agg #[.int .i64 (gto N S st cs fs nf).1.c, .int .i64 (gto N S st cs fs nf).1.s], .int .i64 (gto N S st cs fs nf).2]) ∧ Below w.heap.size w w' := by
  obtain ⟨bn, hbn⟩ : ∃ bn, w.heap.size = bn := ⟨_, rfl⟩
  obtain ⟨k1, hk1⟩ : ∃ k1 : Array Value, #[.int .i64 T, .int .i64 N, .int .i64 st, .slice RA nR rc] = k1 := ⟨_, rfl⟩
  obtain ⟨k2, hk2⟩ : ∃ k2 : Array Value, #[.int .i64 S, .slice LA nL lc, .slice FA nf fc] = k2 := ⟨_, rfl⟩
  obtain ⟨k3, hk3⟩ : ∃ k3 : Array Value, #[.int .i64 N, .int .i64 S, .slice CA nc cc] = k3 := ⟨_, rfl⟩
  obtain ⟨W, hW⟩ : ∃ W, (((((w.alloc (.cells #[.int .i64 T, .int .i64 N, .int .i64 st, .slice RA nR rc] 24)).alloc (.cells #[.int .i64 S, .slice LA nL lc, .slice FA nf fc] 28)).alloc (.cells #[.int .i64 N, .int .i64 S, .slice CA nc cc] 34)).alloc (.cells #[.int .i64 0, .int .i64 0] 45)).alloc (.cells #[.int .i64 1099511627776, .int .i64 0] 45)) = W := ⟨_, rfl⟩
  have HG0 : Hid (GM w W bn k1 k2 k3 vtop) := by
    rw [← hW, ← hk1, ← hk2, ← hk3]
    refine ⟨((((Blk.new' w _ _ hbn).alloc _).alloc _).alloc _).alloc _, (((Blk.new' _ _ _ (by simp; omega)).alloc _).alloc _).alloc _, ((Blk.new' _ _ _ (by simp; omega)).alloc _).alloc _, (Blk.new' _ _ _ (by simp; omega)).alloc _, Blk.new' _ _ _ (by simp; omega), ?_⟩
    exact (((((Below.refl _ _).alloc (by omega) _).alloc (by simp; omega) _).alloc (by simp; omega) _).alloc (by simp; omega) _).alloc (by simp; omega) _
  have HF := Lib.hid (hF.more hB)
  have HC := Lib.hid (hC.more hB)
  have HG := Lib.hid hg
  have HFN := Lib.hid hf
  have HCO := Lib.hid hcs
  have HK := Lib.hid (And.intro hk1 (And.intro hk2 hk3))
  have HBN := Lib.hid hbn
  have HW := Lib.hid hW
  have hbW : Below w.heap.size w W := by rw [hbn]; exact HG0.out.below
  obtain ⟨g0, g1, _⟩ := hg
  have hglt : 0 < w.heap.size := HG.out.lt
  have hb4 : Below w.heap.size w ((((w.alloc (.cells #[.int .i64 T, .int .i64 N, .int .i64 st, .slice RA nR rc] 24)).alloc (.cells #[.int .i64 S, .slice LA nL lc, .slice FA nf fc] 28)).alloc (.cells #[.int .i64 N, .int .i64 S, .slice CA nc cc] 34)).alloc (.cells #[.int .i64 0, .int .i64 0] 45)) := ((((Below.refl w.heap.size w).alloc (Nat.le_refl _) _).alloc (by simp) _).alloc (by simp; omega) _).alloc (by simp; omega) _
  have g0' : ((((w.alloc (.cells #[.int .i64 T, .int .i64 N, .int .i64 st, .slice RA nR rc] 24)).alloc (.cells #[.int .i64 S, .slice LA nL lc, .slice FA nf fc] 28)).alloc (.cells #[.int .i64 N, .int .i64 S, .slice CA nc cc] 34)).alloc (.cells #[.int .i64 0, .int .i64 0] 45)).cell? ⟨0, 0, none⟩ = some (.int .i64 1099511627776) := (hb4.cell (p := ⟨0, 0, none⟩) hglt).trans g0
  have g1' : ((((w.alloc (.cells #[.int .i64 T, .int .i64 N, .int .i64 st, .slice RA nR rc] 24)).alloc (.cells #[.int .i64 S, .slice LA nL lc, .slice FA nf fc] 28)).alloc (.cells #[.int .i64 N, .int .i64 S, .slice CA nc cc] 34)).alloc (.cells #[.int .i64 0, .int .i64 0] 45)).cell? ⟨0, 1, none⟩ = some (.int .i64 0) := (hb4.cell (p := ⟨0, 1, none⟩) hglt).trans g1
  clear hb4 g0 g1
  clear hF hC hB hf hcs hk1 hk2 hk3 hW
  go_enter Tryd.func19, Tryd.ntmps19
  go_upto_region 2 with fail
  rw [HW.out]
  rw [show bn + 1 + 1 = bn + 2 by rfl, show bn + 2 + 1 = bn + 3 by rfl, show bn + 3 + 1 = bn + 4 by rfl]
  clear g0' g1'
  have l2 : W.cell? ⟨bn + 1, 2, none⟩ = some (.slice FA nf fc) := by have := HG0.out.k2.cell 2; rw [← HK.out.2.1] at this; simpa using this
  clear hbn
  go_wp2_with fail
  go_loopw [9, 18] (fun s x wr => ∃ i : Nat, i ≤ nf ∧ x = .int .i64 i ∧ s = .int .i64 (gto N S st cs fs i).2 ∧ Hid (GM w wr bn k1 k2 k3 (gto N S st cs fs i).1)) (fun _ x _ => nf - (intOf x).toNat)
  case atStart => exact ⟨0, Nat.zero_le _, rfl, rfl, HG0⟩
  case round =>
    obtain ⟨i, hi, rfl, rfl, HGM⟩ := hrel
    clear HG0 l2
    obtain ⟨b, hb⟩ : ∃ b, gto N S st cs fs i = b := ⟨_, rfl⟩
    rw [hb] at HGM ⊢
    by_cases hlt : i < nf
    case neg =>
      have hltD : decide (i < nf) = false := by simp [hlt]
      obtain rfl : i = nf := by omega
      have r3 := HGM.out.k4.set2 (.int .i64 b.1.c) (.int .i64 b.1.s)
      have a0 := HGM.out.k5.cell 0
      have a1 := HGM.out.k5.cell 1
      have r0 := HGM.out.k4.cell 0
      have r1 := HGM.out.k4.cell 1
      have z0 := HGM.out.k4.frozen 0
      have z1 := HGM.out.k4.frozen 1
      simp at a0 a1 r0 r1
      have HF2 : Hid (Below w.heap.size w ((wr.setCell ⟨bn + 3, 0, none⟩ (.int .i64 b.1.c)).setCell ⟨bn + 3, 1, none⟩ (.int .i64 b.1.s))) := by
        rw [HBN.out]
        exact (HGM.out.below.setCell (p := ⟨bn + 3, 0, none⟩) (by show bn ≤ bn + 3; omega) _).setCell (p := ⟨bn + 3, 1, none⟩) (by show bn ≤ bn + 3; omega) _
      go_wp2_with fail
      rw [hb]
      exact bodyPost_ret (results_goal rfl rfl rfl (r3.cell 0) (r3.cell 1)) rfl ⟨rfl, HF2.out⟩
    case pos =>
      have hltD : decide (i < nf) = true := by simp [hlt]
      have hfb := HF.out.below (by rw [HBN.out]; exact HGM.out.below)
      obtain ⟨bf, of, hFA, _, p0⟩ := hfb.int_at hlt
      obtain ⟨f, hfi⟩ : ∃ f, fs[i]? = some f := ⟨_, List.getElem?_eq_getElem (by have := hfb.len_ints; omega)⟩
      have hf0 := HFN.out f (List.mem_of_getElem? hfi)
      rw [hfi] at p0
      simp only [Option.getD_some] at p0
      have hgs : gto N S st cs fs (i + 1) = gst N S st cs b i f := by show gst _ _ _ _ (gto N S st cs fs i) i (fs[i]?.getD 0) = _; rw [hb, hfi]; rfl
      have HGS := Lib.hid hgs
      rw [hFA]
      have n2 : wr.cell? ⟨bn, 2, none⟩ = some (.int .i64 st) := by have := HGM.out.k1.cell 2; rw [← HK.out.1] at this; simpa using this
      have c0 : wr.cell? ⟨bn + 2, 0, none⟩ = some (.int .i64 N) := by have := HGM.out.k3.cell 0; rw [← HK.out.2.2] at this; simpa using this
      have c1 : wr.cell? ⟨bn + 2, 1, none⟩ = some (.int .i64 S) := by have := HGM.out.k3.cell 1; rw [← HK.out.2.2] at this; simpa using this
      have c2 : wr.cell? ⟨bn + 2, 2, none⟩ = some (.slice CA nc cc) := by have := HGM.out.k3.cell 2; rw [← HK.out.2.2] at this; simpa using this
      clear hgs hfb hfi hb
      by_cases hfin : f < 1099511627776
      case neg =>
        have d0 : decide ((1099511627776 : Int) ≤ f) = true := by simp; omega
        have hg2 : gto N S st cs fs (i + 1) = b := by rw [HGS.out]; unfold gst; rw [if_neg (fun h => hfin h.1)]
        go_wp2_with fail
        go_roundw
        case rel => exact ⟨i + 1, by omega, by go_num, by rw [hg2], by rw [hg2]; exact HGM⟩
        case measure => simp [intOf]; omega
      case pos =>
        have d0 : decide ((1099511627776 : Int) ≤ f) = false := by simp; omega
        obtain ⟨x, hx⟩ : ∃ x, atC N S cs ⟨st, 0, i⟩ = x := ⟨_, rfl⟩
        have hxo : Ordy x.v := by rw [← hx]; exact HCO.out _
        have HXO := Lib.hid hxo
        have hsz : bn ≤ wr.heap.size := by have := HGM.out.k1.lt; omega
        have HAT : Hid (Calls Tryd.prog 28 #[.agg #[.int .i64 N, .int .i64 S, .slice CA nc cc], .agg #[.int .i64 st, .int .i64 0, .int .i64 i]] wr fun e w' => e = .returned x.val ∧ Below wr.heap.size wr w') := by
          have h := at_any N S nc cc bn CA cs ⟨st, 0, i⟩ wr (by have h1 := HC.out; rw [HBN.out] at h1; exact h1.below HGM.out.below) hsz hN hS (by omega) (HG.out.below HGM.out.below (by rw [← HBN.out]; exact HG.out.lt))
          rw [hx] at h
          exact h
        obtain ⟨v, hv⟩ : ∃ v, comb f [x.v] = v := ⟨_, rfl⟩
        have hgs2 : gto N S st cs fs (i + 1) = if v.c < 1099511627776 ∧ (b.2 < 0 ∨ vlt v.c v.s b.1.c b.1.s = true) then (v, (i : Int)) else b := by
          rw [HGS.out]
          unfold gst
          rw [hx, hv]
          simp only [hfin, true_and]
        have HGS2 := Lib.hid hgs2
        have HV := Lib.hid hv
        have hfd : ∀ (c s r x : Int) (w : World), (Instr.field 47 (.agg #[.int .i64 c, .int .i64 s, .int .i64 r, .int .i64 x]) 0).run Tryd.prog w = .ok (.agg #[.int .i64 c, .int .i64 s]) w := fun _ _ _ _ _ => by kernel_rfl
        simp only [Cl.val] at HAT
        clear hgs2 hv hx hxo HGS
        go_upto_region 6 with fail
        go_upto_region 7 with (first | (go_at_call 28; with_reducible refine HAT.out.mono ?_; rintro e w4 ⟨rfl, hb4⟩; have HGM4 := Lib.hid (HGM.out.next hb4); clear hb4) | (go_at_call 39; refine (combine_any f (some ⟨w4.heap.size, 0, none⟩) 1 1 (w4.heap.size + 1) [x.v] _ (reads_one w4 x.v) (by simp) hf0 (by intro u hu; simp at hu; rw [hu]; exact HXO.out) (by omega)).mono ?_; rintro e w5 ⟨rfl, hb5⟩; have HGM5 := Lib.hid ((HGM4.out.next ((Below.refl _ _).alloc (Nat.le_refl _) _)).next hb5); rw [HV.out]; clear hb5))
        obtain ⟨bv, hbv⟩ : ∃ bv, w5.heap.size = bv := ⟨_, rfl⟩
        obtain ⟨w6, hw6⟩ : ∃ w6, w5.alloc (.cells #[.int .i64 v.c, .int .i64 v.s] 45) = w6 := ⟨_, rfl⟩
        have HGM6 : Hid (GM w w6 bn k1 k2 k3 b.1) := by rw [← hw6]; exact HGM5.out.next ((Below.refl _ _).alloc (Nat.le_refl _) _)
        have HKV : Hid (Blk w6 bv 45 #[.int .i64 v.c, .int .i64 v.s]) := by rw [← hw6]; exact Blk.new' _ _ _ hbv
        rw [hw6, hbv]
        have x0 := HKV.out.cell 0
        have x1 := HKV.out.cell 1
        have y0 := HGM6.out.k5.cell 0
        have y1 := HGM6.out.k5.cell 1
        have z0 := HGM6.out.k5.frozen 0
        have z1 := HGM6.out.k5.frozen 1
        simp at x0 x1 y0 y1
        clear hw6 hbv HGM HGM4 HGM5 HAT hfd p0 n2 c0 c1 c2 hsz
        have HPUT := Lib.hid (HGM6.out.put v)
        by_cases h1 : v.c < 1099511627776
        case neg => as_aux_lemma =>
          have d1 : decide (v.c < 1099511627776) = false := by simp; omega
          have hg2 : gto N S st cs fs (i + 1) = b := by rw [HGS2.out, if_neg (fun h => h1 h.1)]
          go_wp2_with fail
          go_roundw
          case rel => exact ⟨i + 1, by omega, by go_num, by rw [hg2], by rw [hg2]; exact HGM6⟩
          case measure => simp [intOf]; omega
        case pos =>
          have d1 : decide (v.c < 1099511627776) = true := by simp; omega
          by_cases h2 : b.2 < 0
          case pos => as_aux_lemma =>
            have d2 : decide (b.2 < 0) = true := by simp; omega
            have hg2 : gto N S st cs fs (i + 1) = (v, (i : Int)) := by rw [HGS2.out, if_pos ⟨h1, .inl h2⟩]
            go_wp2_with fail
            go_roundw
            case rel => exact ⟨i + 1, by omega, by go_num, by rw [hg2], by rw [hg2]; exact HPUT⟩
            case measure => simp [intOf]; omega
          case neg =>
            have d2 : decide (b.2 < 0) = false := by simp; omega
            obtain ⟨u, hu⟩ : ∃ u, vlt v.c v.s b.1.c b.1.s = u := ⟨_, rfl⟩
            have hls := vless_any v.c v.s b.1.c b.1.s w6
            rw [hu] at hls
            have HLS := Lib.hid hls
            have HU := Lib.hid hu
            clear hls hu
            cases u with
            | true => as_aux_lemma =>
              have hg2 : gto N S st cs fs (i + 1) = (v, (i : Int)) := by rw [HGS2.out, if_pos ⟨h1, .inr HU.out⟩]
              go_wp2_with (go_at_call 40; with_reducible refine HLS.out.mono ?_; rintro e w7 ⟨rfl, hb7⟩; have HGM7 := Lib.hid (HGM6.out.next hb7); have HKV7 := Lib.hid (HKV.out.below hb7 HKV.out.lt); have x0 := HKV7.out.cell 0; have x1 := HKV7.out.cell 1; have y0 := HGM7.out.k5.cell 0; have y1 := HGM7.out.k5.cell 1; have z0 := HGM7.out.k5.frozen 0; have z1 := HGM7.out.k5.frozen 1; simp at x0 x1 y0 y1; have HPUT7 := Lib.hid (HGM7.out.put v); clear hb7)
              go_roundw
              case rel => exact ⟨i + 1, by omega, by go_num, by rw [hg2], by rw [hg2]; exact HPUT7⟩
              case measure => simp [intOf]; omega
            | false => as_aux_lemma =>
              have hg2 : gto N S st cs fs (i + 1) = b := by rw [HGS2.out, if_neg (fun h => by rcases h.2 with h3 | h3; exact h2 h3; rw [HU.out] at h3; cases h3)]
              go_wp2_with (go_at_call 40; with_reducible refine HLS.out.mono ?_; rintro e w7 ⟨rfl, hb7⟩; have HGM7 := Lib.hid (HGM6.out.next hb7); clear hb7)
              go_roundw
              case rel => exact ⟨i + 1, by omega, by go_num, by rw [hg2], by rw [hg2]; exact HGM7⟩
              case measure => simp [intOf]; omega
end Go.Proofs.YthakcefgbggkcaaDoor

namespace Go.Proofs.YthakcefgbggkcaaDoor

def exR : List Rl := [⟨2, 0, 0, 0, 2, 0⟩, ⟨4, 0, 0, 0, 0, 1⟩]
def exL : List Ar := [⟨0, 1, 0, 0, none, 0, 0⟩, ⟨1, 2, 0, 0, none, 0, 0⟩]
def exF : List Int := [1099511627776, 1099511627776, 5]
def gue (g : Vl) (h : Nat) : Vl := if h = 0 then g else vtop
theorem sol0 {R : List Rl} {L : List Ar} {s t : Nat} {C : It → Vl} {U : Nat → Vl} (h : SSol R L s t C U) (g : Vl) (hg : Nrm g) (hpre : PreS R L s t C (gue g)) (hatt : vle (U 0) g) : U 0 = g := by
  have h1 := h.top (gue g) (fun i => by unfold gue; split; exact hg; exact Nrm.top) hpre 0
  exact hatt.antisymm h1
theorem ins_00 (s : Nat) (hs : s < 3) : insts exL s s ⟨2, 0, 0, 0, 2, 0⟩ = [] ∧ insts exL s s ⟨4, 0, 0, 0, 0, 1⟩ = [⟨s, 0, [⟨0, s, s⟩, ⟨0, s, s⟩]⟩] := by
  rcases (show s = 0 ∨ s = 1 ∨ s = 2 by omega) with rfl | rfl | rfl <;> exact ⟨rfl, rfl⟩
theorem ins_01 : insts exL 0 1 ⟨2, 0, 0, 0, 2, 0⟩ = [⟨0, 2, []⟩] ∧ insts exL 0 1 ⟨4, 0, 0, 0, 0, 1⟩ = [⟨0, 0, [⟨0, 0, 0⟩, ⟨0, 0, 1⟩]⟩, ⟨1, 0, [⟨0, 0, 1⟩, ⟨0, 1, 1⟩]⟩] := ⟨rfl, rfl⟩
theorem ins_12 : insts exL 1 2 ⟨2, 0, 0, 0, 2, 0⟩ = [⟨1, 2, []⟩] ∧ insts exL 1 2 ⟨4, 0, 0, 0, 0, 1⟩ = [⟨1, 0, [⟨0, 1, 1⟩, ⟨0, 1, 2⟩]⟩, ⟨2, 0, [⟨0, 1, 2⟩, ⟨0, 2, 2⟩]⟩] := ⟨rfl, rfl⟩
theorem ins_02 : insts exL 0 2 ⟨2, 0, 0, 0, 2, 0⟩ = [] ∧ insts exL 0 2 ⟨4, 0, 0, 0, 0, 1⟩ = [⟨0, 0, [⟨0, 0, 0⟩, ⟨0, 0, 2⟩]⟩, ⟨1, 0, [⟨0, 0, 1⟩, ⟨0, 1, 2⟩]⟩, ⟨2, 0, [⟨0, 0, 2⟩, ⟨0, 2, 2⟩]⟩] := ⟨rfl, rfl⟩
section
variable {C : It → Vl} {U : Nat → Vl}
theorem pre_ex {s t : Nat} {l1 l2 : List Ins} {V : Nat → Vl} (h1 : insts exL s t ⟨2, 0, 0, 0, 2, 0⟩ = l1) (h2 : insts exL s t ⟨4, 0, 0, 0, 0, 1⟩ = l2) : PreS exR exL s t C V ↔ (∀ i ∈ l1, vle (V 0) (iv (spv C s t V) i)) ∧ ∀ i ∈ l2, vle (V 0) (iv (spv C s t V) i) := by
  unfold PreS exR
  simp only [List.mem_cons, List.not_mem_nil, or_false, forall_eq_or_imp, forall_eq, h1, h2]
  rfl
theorem sol_ss {s : Nat} (hs : s < 3) (h : SSol exR exL s s C U) : U 0 = vtop := by
  obtain ⟨e1, e2⟩ := ins_00 s hs
  refine sol0 h vtop Nrm.top ((pre_ex e1 e2).2 ⟨fun i hi => by simp at hi, fun i hi => ?_⟩) ((h.nrm 0).le_top)
  simp only [List.mem_cons, List.not_mem_nil, or_false] at hi
  subst hi
  have ho : (⟨0, (s : Int), (s : Int)⟩ : It).own s s = true := own_iff.2 ⟨rfl, rfl⟩
  simp only [iv, List.map_cons, List.map_nil, spv, ho, if_true]
  exact .inr ⟨rfl, by decide⟩
theorem sol_01 (h : SSol exR exL 0 1 C U) (h0 : C ⟨0, 0, 0⟩ = vtop) (h1 : C ⟨0, 1, 1⟩ = vtop) : U 0 = ⟨2, 1⟩ := by
  obtain ⟨e1, e2⟩ := ins_01
  refine sol0 h ⟨2, 1⟩ ⟨by unfold Ordy; decide, by decide⟩ ((pre_ex e1 e2).2 ⟨fun i hi => ?_, fun i hi => ?_⟩) ?_
  · simp only [List.mem_cons, List.not_mem_nil, or_false] at hi
    subst hi
    show vle ⟨2, 1⟩ (comb 2 [])
    unfold vle; decide
  · simp only [List.mem_cons, List.not_mem_nil, or_false] at hi
    rcases hi with rfl | rfl
    · show vle ⟨2, 1⟩ (comb 0 [C ⟨0, 0, 0⟩, ⟨2, 1⟩])
      rw [h0]; unfold vle; decide
    · show vle ⟨2, 1⟩ (comb 0 [⟨2, 1⟩, C ⟨0, 1, 1⟩])
      rw [h1]; unfold vle; decide
  · exact ((pre_ex e1 e2).1 h.pre).1 ⟨0, 2, []⟩ (by simp)
theorem sol_12 (h : SSol exR exL 1 2 C U) (h0 : C ⟨0, 1, 1⟩ = vtop) (h1 : C ⟨0, 2, 2⟩ = vtop) : U 0 = ⟨2, 1⟩ := by
  obtain ⟨e1, e2⟩ := ins_12
  refine sol0 h ⟨2, 1⟩ ⟨by unfold Ordy; decide, by decide⟩ ((pre_ex e1 e2).2 ⟨fun i hi => ?_, fun i hi => ?_⟩) ?_
  · simp only [List.mem_cons, List.not_mem_nil, or_false] at hi
    subst hi
    show vle ⟨2, 1⟩ (comb 2 [])
    unfold vle; decide
  · simp only [List.mem_cons, List.not_mem_nil, or_false] at hi
    rcases hi with rfl | rfl
    · show vle ⟨2, 1⟩ (comb 0 [C ⟨0, 1, 1⟩, ⟨2, 1⟩])
      rw [h0]; unfold vle; decide
    · show vle ⟨2, 1⟩ (comb 0 [⟨2, 1⟩, C ⟨0, 2, 2⟩])
      rw [h1]; unfold vle; decide
  · exact ((pre_ex e1 e2).1 h.pre).1 ⟨1, 2, []⟩ (by simp)
theorem sol_02 (h : SSol exR exL 0 2 C U) (h0 : C ⟨0, 0, 0⟩ = vtop) (h1 : C ⟨0, 0, 1⟩ = ⟨2, 1⟩) (h2 : C ⟨0, 1, 2⟩ = ⟨2, 1⟩) (h3 : C ⟨0, 2, 2⟩ = vtop) : U 0 = ⟨4, 3⟩ := by
  obtain ⟨e1, e2⟩ := ins_02
  refine sol0 h ⟨4, 3⟩ ⟨by unfold Ordy; decide, by decide⟩ ((pre_ex e1 e2).2 ⟨fun i hi => by simp at hi, fun i hi => ?_⟩) ?_
  · simp only [List.mem_cons, List.not_mem_nil, or_false] at hi
    rcases hi with rfl | rfl | rfl
    · show vle ⟨4, 3⟩ (comb 0 [C ⟨0, 0, 0⟩, ⟨4, 3⟩])
      rw [h0]; unfold vle; decide
    · show vle ⟨4, 3⟩ (comb 0 [C ⟨0, 0, 1⟩, C ⟨0, 1, 2⟩])
      rw [h1, h2]; unfold vle; decide
    · show vle ⟨4, 3⟩ (comb 0 [⟨4, 3⟩, C ⟨0, 2, 2⟩])
      rw [h3]; unfold vle; decide
  · have h4 : vle (U 0) (comb 0 [C ⟨0, 0, 1⟩, C ⟨0, 1, 2⟩]) := ((pre_ex e1 e2).1 h.pre).2 ⟨1, 0, [⟨0, 0, 1⟩, ⟨0, 1, 2⟩]⟩ (by simp)
    rw [h1, h2] at h4
    have e : comb 0 [⟨2, 1⟩, ⟨2, 1⟩] = ⟨4, 3⟩ := by rfl
    rw [e] at h4
    exact h4
/-- The cells of the spans. -/
theorem insH_01 : insH exR exL 0 1 0 = [(0, ⟨0, 2, []⟩), (1, ⟨0, 0, [⟨0, 0, 0⟩, ⟨0, 0, 1⟩]⟩), (1, ⟨1, 0, [⟨0, 0, 1⟩, ⟨0, 1, 1⟩]⟩)] := rfl
theorem insH_12 : insH exR exL 1 2 0 = [(0, ⟨1, 2, []⟩), (1, ⟨1, 0, [⟨0, 1, 1⟩, ⟨0, 1, 2⟩]⟩), (1, ⟨2, 0, [⟨0, 1, 2⟩, ⟨0, 2, 2⟩]⟩)] := rfl
theorem insH_02 : insH exR exL 0 2 0 = [(1, ⟨0, 0, [⟨0, 0, 0⟩, ⟨0, 0, 2⟩]⟩), (1, ⟨1, 0, [⟨0, 0, 1⟩, ⟨0, 1, 2⟩]⟩), (1, ⟨2, 0, [⟨0, 0, 2⟩, ⟨0, 2, 2⟩]⟩)] := rfl
theorem cel_ss {s : Nat} (hU : U 0 = vtop) : cel exR exL s s C U 0 = cnone := by
  unfold cel
  rw [hU, if_neg (by decide)]
theorem cel_01 (hU : U 0 = ⟨2, 1⟩) : cel exR exL 0 1 C U 0 = ⟨⟨2, 1⟩, 0, 0⟩ := by
  have ha : atts C 0 1 U 0 (0, ⟨0, 2, []⟩) = true := atts_iff.2 (by rw [hU]; rfl)
  unfold cel
  rw [hU, if_pos (by decide), insH_01, List.find?_cons, ha]
  rfl
theorem cel_12 (hU : U 0 = ⟨2, 1⟩) : cel exR exL 1 2 C U 0 = ⟨⟨2, 1⟩, 0, 1⟩ := by
  have ha : atts C 1 2 U 0 (0, ⟨1, 2, []⟩) = true := atts_iff.2 (by rw [hU]; rfl)
  unfold cel
  rw [hU, if_pos (by decide), insH_12, List.find?_cons, ha]
  rfl
theorem cel_02 (hU : U 0 = ⟨4, 3⟩) (h0 : C ⟨0, 0, 0⟩ = vtop) (h1 : C ⟨0, 0, 1⟩ = ⟨2, 1⟩) (h2 : C ⟨0, 1, 2⟩ = ⟨2, 1⟩) : cel exR exL 0 2 C U 0 = ⟨⟨4, 3⟩, 1, 1⟩ := by
  have ha : atts C 0 2 U 0 (1, ⟨0, 0, [⟨0, 0, 0⟩, ⟨0, 0, 2⟩]⟩) = false := by
    have e : iv (spv C 0 2 U) ⟨0, 0, [⟨0, 0, 0⟩, ⟨0, 0, 2⟩]⟩ = vtop := by
      show comb 0 [C ⟨0, 0, 0⟩, U 0] = vtop
      rw [h0, hU]; rfl
    unfold atts
    simp only [e, hU]
    decide
  have hb : atts C 0 2 U 0 (1, ⟨1, 0, [⟨0, 0, 1⟩, ⟨0, 1, 2⟩]⟩) = true := atts_iff.2 (by
    show comb 0 [C ⟨0, 0, 1⟩, C ⟨0, 1, 2⟩] = U 0
    rw [h1, h2, hU]; rfl)
  unfold cel
  rw [hU, if_pos (by decide), insH_02, List.find?_cons, ha, List.find?_cons, hb]
  rfl
end
/-- The chart of the example. -/
theorem ex_chart {cs : List Cl} (h : Chart exR exL 1 3 cs) : atC 1 3 cs ⟨0, 0, 1⟩ = ⟨⟨2, 1⟩, 0, 0⟩ ∧ atC 1 3 cs ⟨0, 0, 2⟩ = ⟨⟨4, 3⟩, 1, 1⟩ ∧ atC 1 3 cs ⟨0, 0, 0⟩ = cnone ∧ atC 1 3 cs ⟨0, 1, 1⟩ = cnone ∧ atC 1 3 cs ⟨0, 2, 2⟩ = cnone := by
  have key : ∀ (s t : Nat) (x : Cl), s ≤ t → t < 3 → cs[cix 3 s t * 1 + 0]? = some x → atC 1 3 cs ⟨0, (s : Nat), (t : Nat)⟩ = x := fun s t x h1 h2 h3 => by
    unfold atC
    rw [if_pos ⟨⟨by show (0 : Int) ≤ 0; decide, by show (0 : Int) < ((1 : Nat) : Int); decide⟩, by show (0 : Int) ≤ (s : Int); omega, by show (s : Int) ≤ (t : Int); omega, by show (t : Int) < ((3 : Nat) : Int); omega⟩]
    simp only [Int.toNat_natCast]
    show (cs[cix 3 s t * 1 + 0]?).getD cnone = x
    rw [h3]; rfl
  have hss : ∀ s, s < 3 → atC 1 3 cs ⟨0, (s : Nat), (s : Nat)⟩ = cnone := fun s hs => by
    obtain ⟨U, h1, h2⟩ := h.span (Nat.le_refl s) hs
    have := h2 0 (by decide)
    rw [cel_ss (sol_ss hs h1)] at this
    exact key s s _ (Nat.le_refl _) hs this
  have c00 : CC 1 3 cs ⟨0, 0, 0⟩ = vtop := by unfold CC; rw [show (⟨0, 0, 0⟩ : It) = ⟨0, ((0 : Nat) : Int), ((0 : Nat) : Int)⟩ by rfl, hss 0 (by decide)]; rfl
  have c11 : CC 1 3 cs ⟨0, 1, 1⟩ = vtop := by unfold CC; rw [show (⟨0, 1, 1⟩ : It) = ⟨0, ((1 : Nat) : Int), ((1 : Nat) : Int)⟩ by rfl, hss 1 (by decide)]; rfl
  have c22 : CC 1 3 cs ⟨0, 2, 2⟩ = vtop := by unfold CC; rw [show (⟨0, 2, 2⟩ : It) = ⟨0, ((2 : Nat) : Int), ((2 : Nat) : Int)⟩ by rfl, hss 2 (by decide)]; rfl
  have a01 : atC 1 3 cs ⟨0, ((0 : Nat) : Int), ((1 : Nat) : Int)⟩ = ⟨⟨2, 1⟩, 0, 0⟩ := by
    obtain ⟨U, h1, h2⟩ := h.span (s := 0) (t := 1) (by decide) (by decide)
    have := h2 0 (by decide)
    rw [cel_01 (sol_01 h1 c00 c11)] at this
    exact key 0 1 _ (by decide) (by decide) this
  have a12 : atC 1 3 cs ⟨0, ((1 : Nat) : Int), ((2 : Nat) : Int)⟩ = ⟨⟨2, 1⟩, 0, 1⟩ := by
    obtain ⟨U, h1, h2⟩ := h.span (s := 1) (t := 2) (by decide) (by decide)
    have := h2 0 (by decide)
    rw [cel_12 (sol_12 h1 c11 c22)] at this
    exact key 1 2 _ (by decide) (by decide) this
  have c01 : CC 1 3 cs ⟨0, 0, 1⟩ = ⟨2, 1⟩ := by unfold CC; rw [show (⟨0, 0, 1⟩ : It) = ⟨0, ((0 : Nat) : Int), ((1 : Nat) : Int)⟩ by rfl, a01]
  have c12 : CC 1 3 cs ⟨0, 1, 2⟩ = ⟨2, 1⟩ := by unfold CC; rw [show (⟨0, 1, 2⟩ : It) = ⟨0, ((1 : Nat) : Int), ((2 : Nat) : Int)⟩ by rfl, a12]
  have a02 : atC 1 3 cs ⟨0, ((0 : Nat) : Int), ((2 : Nat) : Int)⟩ = ⟨⟨4, 3⟩, 1, 1⟩ := by
    obtain ⟨U, h1, h2⟩ := h.span (s := 0) (t := 2) (by decide) (by decide)
    have := h2 0 (by decide)
    rw [cel_02 (sol_02 h1 c00 c01 c12 c22) c00 c01 c12] at this
    exact key 0 2 _ (by decide) (by decide) this
  exact ⟨a01, a02, hss 0 (by decide), hss 1 (by decide), hss 2 (by decide)⟩
theorem ex_goal {cs : List Cl} (h : Chart exR exL 1 3 cs) : gto 1 3 0 cs exF 3 = (⟨9, 4⟩, 2) := by
  obtain ⟨_, h2, _⟩ := ex_chart h
  show gst 1 3 0 cs (gst 1 3 0 cs (gst 1 3 0 cs (vtop, -1) 0 1099511627776) 1 1099511627776) 2 5 = _
  have e1 : ∀ b t, gst 1 3 0 cs b t 1099511627776 = b := fun b t => by unfold gst; rw [if_neg (fun h => absurd h.1 (by decide))]
  rw [e1, e1]
  unfold gst
  have e : comb 5 [(atC 1 3 cs ⟨0, 0, ((2 : Nat) : Int)⟩).v] = ⟨9, 4⟩ := by
    rw [show (⟨0, 0, ((2 : Nat) : Int)⟩ : It) = ⟨0, 0, 2⟩ by rfl, h2]; rfl
  rw [e, if_pos ⟨by decide, by decide, .inl (by decide)⟩]
  rfl
end Go.Proofs.YthakcefgbggkcaaDoor

namespace Go.Proofs.YthakcefgbggkcaaDoor
open Go.RowKit

theorem infoClS : (Tryd.prog.info? 47).map (fun i => (i.zero, i.size, i.bytes)) = some (some (.agg #[.int .i64 0, .int .i64 0, .int .i64 0, .int .i64 0]), 4, 32) := by kernel_rfl
theorem cls_len (l : List Cl) : (cls l).length = l.length * 4 := flat_length (n := 4) (f := Cl.cells) (fun _ => rfl) l
theorem cls_take (l : List Cl) (o : Nat) : cls (l.take o) = (cls l).take (o * 4) := by
  induction l generalizing o with
  | nil => simp [cls]
  | cons x l ih =>
    cases o with
    | zero => simp [cls]
    | succ o =>
      have e : (o + 1) * 4 = 4 + o * 4 := by omega
      rw [List.take_succ_cons, e]
      show cls (x :: l.take o) = (x.cells ++ cls l).take (4 + o * 4)
      have h1 : x.cells.length = 4 := rfl
      rw [List.take_append, List.take_of_length_le (l := x.cells) (by rw [h1]; omega), h1, show 4 + o * 4 - 4 = o * 4 by omega, ← ih]
      rfl
theorem cls_drop (l : List Cl) (o : Nat) : cls (l.drop o) = (cls l).drop (o * 4) := by
  induction l generalizing o with
  | nil => simp [cls]
  | cons x l ih =>
    cases o with
    | zero => simp [cls]
    | succ o =>
      have e : (o + 1) * 4 = 4 + o * 4 := by omega
      rw [List.drop_succ_cons, ih, e]
      show _ = (x.cells ++ cls l).drop (4 + o * 4)
      rw [List.drop_append]
      simp [Cl.cells]
theorem cls_ow (cs l : List Cl) (o : Nat) : cls (ow cs o l) = (cls cs).take (o * 4) ++ cls l ++ (cls cs).drop (o * 4 + (cls l).length) := by
  have e : ∀ a b : List Cl, cls (a ++ b) = cls a ++ cls b := fun a b => by simp [cls]
  unfold ow
  rw [e, e, cls_take, cls_drop, cls_len, Nat.add_mul]
theorem cls_one {l : List Cl} {v : Value} (h : v ∈ cls l) : v.oneCell' = true := flat_one (f := Cl.cells) (P := fun v => v.oneCell' = true) (fun a u hu => by
  simp [Cl.cells] at hu
  rcases hu with rfl | rfl | rfl | rfl <;> rfl) h
/-- A chart's cells, written over with a span's. -/
theorem run_copy_cls (w : World) (ty : TypeId) (g o dLen dCap : Nat) (A : Option Addr) (n sCap : Nat) (cs l : List Cl) (hg : Blk w g 47 (cls cs).toArray) (hn : 0 < n) (hd : n ≤ dLen) (hfit : o + n ≤ cs.length) (hsrc : Reads w w.heap.size 4 A n (cls l)) :
    (Builtin.copy_ #[32, 32] ty #[.slice (some ⟨g, o * 4, none⟩) dLen dCap, .slice A n sCap]).run Tryd.prog w = .ok (goInt n) (w.setRow g (cls (ow cs o l)).toArray) := by
  obtain ⟨b, off, hA, hb, hc⟩ := hsrc.2 hn
  have hl := hsrc.1
  obtain ⟨i, hi, hzz⟩ := Option.map_eq_some_iff.1 infoClS
  simp only [Prod.mk.injEq] at hzz
  obtain ⟨_, hs, _⟩ := hzz
  have hld := run_loadCells_list (P := Tryd.prog) w ⟨b, off, none⟩ (cls l) (fun j v hv => by
    have : (⟨b, off, none⟩ : Addr).add j = ⟨b, off + j, none⟩ := by unfold Addr.add; split <;> simp_all
    rw [this]
    exact hc j v hv)
  have hst := run_storeCells_at Tryd.prog g (o * 4) 47 (cls l) 0 (cls cs).toArray w hg (by simp only [Nat.add_zero, List.size_toArray, cls_len]; rw [cls_len] at hl; omega) (fun v hv => cls_one hv)
  rw [hA]
  have hmin : Nat.min n dLen = n := Nat.min_eq_left hd
  rw [Nat.add_zero] at hst
  rw [cls_ow]
  simp only at hst
  rw [hl] at hld
  simp [Builtin.copy_, run_underlying Tryd.underlying32, Builtin.lenOf, Builtin.firstCells, sizeOf, typeInfo, hi, hs, hmin, hld, hst]
theorem Blk.row {w : World} {g : Nat} {t : TypeId} {cs cs' : Array Value} (h : Blk w g t cs) : Blk (w.setRow g cs') g t cs' := setRow_heap w g cs cs' t (0, 0) h
theorem Blk.otherRow {w : World} {g k : Nat} {t : TypeId} {cs cs' : Array Value} (h : Blk w k t cs) (hk : k ≠ g) : Blk (w.setRow g cs') k t cs := by
  unfold Blk at *
  rw [setRow_other w g k cs' hk]
  exact h
end Go.Proofs.YthakcefgbggkcaaDoor

namespace Go.Proofs.YthakcefgbggkcaaDoor
open Go.RowKit

structure Ed where
  hd : Int
  ts : List Int
  cost : Int
  l0 : Int
  l1 : Int
  A : Option Addr
  c : Nat
def Ed.cells (e : Ed) : List Value := [.int .i64 e.hd, .slice e.A e.ts.length e.c, .int .i64 e.cost, .int .i64 e.l0, .int .i64 e.l1]
def eds (l : List Ed) : List Value := l.flatMap Ed.cells
theorem eds_length (l : List Ed) : (eds l).length = l.length * 5 := by
  induction l with
  | nil => rfl
  | cons t l ih => simp only [eds, List.flatMap_cons, List.length_append] at *; rw [ih]; simp [Ed.cells]; omega
theorem eds_append (l m : List Ed) : eds (l ++ m) = eds l ++ eds m := by simp [eds]
theorem eds_at : ∀ (l : List Ed) (k : Nat) (t : Ed) (j : Nat), l[k]? = some t → j < 5 → (eds l)[k * 5 + j]? = t.cells[j]?
  | [], _, _, _, h, _ => by simp at h
  | x :: l, 0, t, j, h, hj => by
    simp at h
    subst h
    simp only [eds, List.flatMap_cons]
    rw [List.getElem?_append_left (by simp [Ed.cells]; omega)]
    simp
  | x :: l, k + 1, t, j, h, hj => by
    simp at h
    have := eds_at l k t j h hj
    simp only [eds, List.flatMap_cons] at *
    rw [List.getElem?_append_right (by simp [Ed.cells]; omega)]
    rw [← this]
    congr 1
    simp [Ed.cells]; omega
theorem eds_one {l : List Ed} {u : Value} (h : u ∈ eds l) : u.oneCell' = true := by
  simp only [eds, List.mem_flatMap] at h
  obtain ⟨t, _, h⟩ := h
  simp [Ed.cells] at h
  rcases h with rfl | rfl | rfl | rfl | rfl <;> rfl
/-- The hyperedges as they lie, with their tails. -/
def HG (w : World) (B : Nat) (E : Option Addr) (n : Nat) (es : List Ed) : Prop := Reads w B 5 E n (eds es) ∧ ∀ e ∈ es, Reads w B 1 e.A e.ts.length (ints e.ts)
section
variable {w w' : World} {B B' n : Nat} {E : Option Addr} {es : List Ed}
theorem HG.below (h : HG w B E n es) (hb : Below B w w') : HG w' B E n es := ⟨h.1.below hb, fun e he => (h.2 e he).below hb⟩
theorem HG.more (h : HG w B E n es) (hB : B ≤ B') : HG w B' E n es := ⟨h.1.more hB, fun e he => (h.2 e he).more hB⟩
theorem HG.keep (h : HG w B E n es) (hk : ∀ p : Addr, p.block < B → w'.cell? p = w.cell? p) : HG w' B E n es := ⟨h.1.keep hk, fun e he => (h.2 e he).keep hk⟩
theorem HG.len (h : HG w B E n es) : es.length = n := by have := h.1.1; rw [eds_length] at this; omega
theorem HG.at_ (h : HG w B E n es) {k : Nat} (hk : k < n) :
    ∃ b off e, E = some ⟨b, off, none⟩ ∧ b < B ∧ es[k]? = some e ∧ w.cell? ⟨b, off + k * 5, none⟩ = some (.int .i64 e.hd) ∧ w.cell? ⟨b, off + k * 5 + 1, none⟩ = some (.slice e.A e.ts.length e.c) ∧ w.cell? ⟨b, off + k * 5 + 2, none⟩ = some (.int .i64 e.cost) ∧ w.cell? ⟨b, off + k * 5 + 3, none⟩ = some (.int .i64 e.l0) ∧ w.cell? ⟨b, off + k * 5 + 4, none⟩ = some (.int .i64 e.l1) ∧ Reads w B 1 e.A e.ts.length (ints e.ts) := by
  obtain ⟨b, off, e, hb, hc⟩ := h.1.2 (by omega)
  have hl : k < es.length := by rw [h.len]; exact hk
  have ht := List.getElem?_eq_getElem hl
  refine ⟨b, off, es[k], e, hb, ht, ?_, ?_, ?_, ?_, ?_, h.2 _ (List.getElem_mem hl)⟩
  · have := hc (k * 5 + 0) (.int .i64 es[k].hd) (by rw [eds_at es k _ 0 ht (by omega)]; rfl)
    simpa using this
  · have := hc (k * 5 + 1) (.slice es[k].A es[k].ts.length es[k].c) (by rw [eds_at es k _ 1 ht (by omega)]; rfl)
    simpa [Nat.add_assoc] using this
  · have := hc (k * 5 + 2) (.int .i64 es[k].cost) (by rw [eds_at es k _ 2 ht (by omega)]; rfl)
    simpa [Nat.add_assoc] using this
  · have := hc (k * 5 + 3) (.int .i64 es[k].l0) (by rw [eds_at es k _ 3 ht (by omega)]; rfl)
    simpa [Nat.add_assoc] using this
  · have := hc (k * 5 + 4) (.int .i64 es[k].l1) (by rw [eds_at es k _ 4 ht (by omega)]; rfl)
    simpa [Nat.add_assoc] using this
end
/-- The value of node i. -/
def gv (V : List Vl) (i : Nat) : Vl := V[i]?.getD vtop
/-- A valid hyperedge of a graph of N nodes. -/
structure Ed.Ok (e : Ed) (N : Nat) : Prop where
  hd : 0 ≤ e.hd ∧ e.hd < N
  cost : 0 ≤ e.cost ∧ e.cost ≤ 1099511627776
  ts : ∀ t ∈ e.ts, 0 ≤ t ∧ t < N
  few : e.ts.length ≤ 4
def tlv (V : Nat → Vl) (ts : List Int) : List Vl := ts.map fun t => V t.toNat
/-- What a hyperedge yields. -/
def ev (V : Nat → Vl) (e : Ed) : Vl := comb e.cost (tlv V e.ts)

theorem infoVl : (Tryd.prog.info? 45).map (fun i => (i.zero, i.size, i.bytes)) = some (some (.agg #[.int .i64 0, .int .i64 0]), 2, 16) := by kernel_rfl
theorem vls_zero (n : Nat) : madeCells #[.int .i64 0, .int .i64 0] (n * 2) = (vls (List.replicate n ⟨0, 0⟩)).toArray := by
  apply Array.ext_getElem?
  intro j
  have e1 : vls (List.replicate n (⟨0, 0⟩ : Vl)) = List.replicate (n * 2) (.int .i64 0) := by
    induction n with
    | zero => rfl
    | succ n ih =>
      rw [List.replicate_succ, show (n + 1) * 2 = n * 2 + 1 + 1 by omega, List.replicate_succ, List.replicate_succ, ← ih]
      simp [vls, Vl.cells]
  rw [e1]
  simp only [madeCells, Array.getElem?_map, List.getElem?_toArray, List.getElem?_replicate]
  by_cases hj : j < n * 2
  · rw [Array.getElem?_range, if_pos hj, if_pos hj]
    have : j % 2 = 0 ∨ j % 2 = 1 := by omega
    rcases this with h | h <;> simp [h]
  · rw [Array.getElem?_range, if_neg hj, if_neg hj]
    rfl
theorem run_make_vls (n : Nat) (hn : n ≤ 1000000) (w : World) : (Instr.makeSlice 40 (.int .i64 (n : Int)) (.int .i64 (n : Int))).run Tryd.prog w = .ok (.slice (some ⟨w.heap.size, 0, none⟩) n n) (w.alloc (.cells (vls (List.replicate n ⟨0, 0⟩)).toArray 45)) := by
  obtain ⟨i, hi, hzz⟩ := Option.map_eq_some_iff.1 infoVl
  simp only [Prod.mk.injEq] at hzz
  obtain ⟨hz, hs, hb⟩ := hzz
  have h := run_make (P := Tryd.prog) w 40 45 i _ Tryd.underlying40 hi hz .i64 .i64 (n : Int) (n : Int) (by omega) (by omega) (by rw [hb]; omega) (by omega)
  rw [h]
  have e : (Value.agg #[.int .i64 0, .int .i64 0]).cells = #[.int .i64 0, .int .i64 0] := by rfl
  rw [e, hs, Int.toNat_natCast, vls_zero]
def vpre (f : Int → Vl) (ts : List Int) (i : Nat) : List Vl := (ts.take i).map f ++ List.replicate (ts.length - i) ⟨0, 0⟩
theorem vpre_length (f : Int → Vl) (ts : List Int) (i : Nat) (hi : i ≤ ts.length) : (vpre f ts i).length = ts.length := by simp [vpre]; omega
theorem vpre_set {f : Int → Vl} {ts : List Int} {i : Nat} {t : Int} (h : ts[i]? = some t) : (vpre f ts i).set i (f t) = vpre f ts (i + 1) := by
  have hi := (List.getElem?_eq_some_iff.1 h).1
  unfold vpre
  rw [List.set_append_right _ _ (by simp; omega)]
  rw [List.take_add_one, h]
  have e1 : ts.length - i = (ts.length - (i + 1)) + 1 := by omega
  rw [e1, List.replicate_succ]
  have e2 : i - ((ts.take i).map f).length = 0 := by simp; omega
  rw [e2]
  simp
theorem vpre_end (f : Int → Vl) (ts : List Int) : vpre f ts ts.length = ts.map f := by simp [vpre]
end Go.Proofs.YthakcefgbggkcaaDoor
