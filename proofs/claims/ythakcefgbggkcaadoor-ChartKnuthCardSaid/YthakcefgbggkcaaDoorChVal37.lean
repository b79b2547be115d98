/- Valid lattices: the reference's Valid, exact. -/
import Derived.Test.YthakcefgbggkcaaDoorChBf
namespace Go.Proofs.YthakcefgbggkcaaDoor
open Go.RowKit

def Ar.Fine (a : Ar) (S : Nat) (T : Int) : Prop := 0 ≤ a.fr ∧ a.fr ≤ a.tt ∧ a.tt < S ∧ 0 ≤ a.tm ∧ a.tm < T ∧ 0 ≤ a.co ∧ a.co < 1099511627776 ∧ ¬ (a.fr = a.tt ∧ a.co = 0)
/-- What a valid lattice is. -/
structure LatOk (S T : Int) (fs : List Int) (L : List Ar) : Prop where
  hS : 1 ≤ S ∧ (fs.length : Int) = S
  hF : ∀ f ∈ fs, 0 ≤ f ∧ f ≤ 1099511627776
  hA : ∀ a ∈ L, a.Fine S.toNat T
  so : ∀ (i : Nat) (a b : Ar), L[i]? = some a → L[i + 1]? = some b → a.bf b
theorem LatOk.ars {S T : Int} {fs : List Int} {L : List Ar} (h : LatOk S T fs L) : ArsOk S.toNat L :=
  ⟨fun a ha => by have := h.hA a ha; unfold Ar.Fine at this; omega, h.so⟩
/-- A Bool is returned, and it says whether P. -/
def RetIff (P : Prop) (w : World) (e : Ending) (w' : World) : Prop := ∃ b : Bool, e = .returned (.bool b) ∧ (b = true ↔ P) ∧ Below w.heap.size w w'
set_option maxRecDepth 100000 in
set_option maxHeartbeats 8000000 in
theorem valid37_any (w : World) (S T : Int) (nL lc nf fc B : Nat) (LA FA : Option Addr) (L : List Ar) (fs : List Int) (hL : Reads w B 5 LA nL (ars L)) (hF : Reads w B 1 FA nf (ints fs)) (hB : B ≤ w.heap.size) (hnL : nL ≤ 1000000000000) (hSb : S ≤ 1000000000000) :
    Calls Tryd.prog 29 #[.agg #[.int .i64 S, .slice LA nL lc, .slice FA nf fc], .int .i64 T] w (RetIff (LatOk S T fs L) w) := by
  obtain ⟨P, hP⟩ : ∃ P, LatOk S T fs L = P := ⟨_, rfl⟩
  rw [hP]
  obtain ⟨W, hW⟩ : ∃ W, w.alloc (.cells #[.int .i64 S, .slice LA nL lc, .slice FA nf fc] 28) = W := ⟨_, rfl⟩
  obtain ⟨bn, hbn⟩ : ∃ bn, w.heap.size = bn := ⟨_, rfl⟩
  have K1 : Blk W bn 28 #[.int .i64 S, .slice LA nL lc, .slice FA nf fc] := by rw [← hW]; exact Blk.new' _ _ _ hbn
  have hBW : Below bn w W := by rw [← hW]; exact (Below.refl _ _).alloc (by omega) _
  have n0 := K1.cell 0
  have n1 := K1.cell 1
  have n2 := K1.cell 2
  simp at n0 n1 n2
  have HK := Lib.hid K1
  have HBW := Lib.hid hBW
  have HW := Lib.hid hW
  have HBN := Lib.hid hbn
  have hln := hL.len_ars
  have hlf := hF.len_ints
  have HL := Lib.hid (hL.more (show B ≤ bn by omega))
  have HF := Lib.hid (hF.more (show B ≤ bn by omega))
  have HP := Lib.hid hP
  have HLN := Lib.hid hln
  have HLF := Lib.hid hlf
  have HNO : Hid (∀ w', ¬ LatOk S T fs L → Below bn w w' → RetIff P w (.returned (.bool false)) w') := fun w' hn h => ⟨false, rfl, ⟨fun e => Bool.noConfusion e, fun e => by rw [← HP.out] at e; exact absurd e hn⟩, by rw [HBN.out]; exact h⟩
  clear hW hBW K1 hL hF hB hP hln hlf
  go_enter Tryd.func29, Tryd.ntmps29
  go_upto_region 1 with fail
  try rw [hbn]
  rw [HW.out]
  by_cases a0 : S < 1
  · have d0 : decide (S < 1) = true := by simp; omega
    have HNN : Hid (¬ LatOk S T fs L) := fun h => by have := h.hS; omega
    go_wp2_with fail
    go_ret
    exact HNO.out _ HNN.out HBW.out
  have d0 : decide (S < 1) = false := by simp; omega
  by_cases a1 : (nf : Int) = S
  case neg =>
    have d1 : ((nf : Int) != S) = true := by simp [a1]
    have d1' : ((nf : Int) == S) = false := by simp [a1]
    have HNN : Hid (¬ LatOk S T fs L) := fun h => by have := h.hS; rw [HLF.out] at this; omega
    go_wp2_with fail
    go_ret
    exact HNO.out _ HNN.out HBW.out
  subst a1
  have d1 : ((nf : Int) != (nf : Int)) = false := by simp
  have HS1 : Hid (1 ≤ nf) := by show 1 ≤ nf; omega
  go_upto_region 3 with fail
  go_wp2_with fail
  clear n0 n1 n2 d0 d1 a0
  have HA0 : Hid (∀ j f, j < 0 → fs[j]? = some f → 0 ≤ f ∧ f ≤ 1099511627776) := fun _ _ h => by omega
  go_loopw [5] (fun q wr => ∃ i : Nat, i ≤ nf ∧ q = .int .i64 i ∧ Hid (Blk wr bn 28 #[.int .i64 nf, .slice LA nL lc, .slice FA nf fc]) ∧ Hid (Below bn w wr) ∧ Hid (∀ j f, j < i → fs[j]? = some f → 0 ≤ f ∧ f ≤ 1099511627776)) (fun q _ => nf - (intOf q).toNat)
  case atStart => exact ⟨0, Nat.zero_le _, rfl, HK, HBW, HA0⟩
  case round =>
    obtain ⟨i, hi, rfl, HKr, HBr, HA⟩ := hrel
    clear HK HBW HA0
    have n2 := HKr.out.cell 2
    simp at n2
    have ui : IntKind.i64.wrap ((i : Int) + 1) = (i : Int) + 1 := IntWalk.i64_in _ (by omega)
    by_cases hlt : i < nf
    case pos => as_aux_lemma =>
      have hltD : decide (i < nf) = true := by simp [hlt]
      obtain ⟨bf, of, hFA, hbf, p0⟩ := (HF.out.below HBr.out).int_at hlt
      obtain ⟨f, hfi⟩ : ∃ f, fs[i]? = some f := ⟨_, List.getElem?_eq_getElem (by rw [HLF.out]; exact hlt)⟩
      rw [hfi] at p0
      simp only [Option.getD_some] at p0
      have HFI := Lib.hid hfi
      have HFM := Lib.hid (List.mem_of_getElem? hfi)
      have HNX : Hid ((0 ≤ f ∧ f ≤ 1099511627776) → ∀ j f, j < i + 1 → fs[j]? = some f → 0 ≤ f ∧ f ≤ 1099511627776) := fun hk j g hj hg => by
        by_cases hji : j = i
        · subst hji
          rw [HFI.out] at hg
          injection hg with hg
          rw [← hg]
          exact hk
        · exact HA.out j g (by omega) hg
      rw [hFA] at n2 HKr
      have HFA := Lib.hid hFA
      clear hfi hFA
      by_cases b0 : f < 0
      · have e0 : decide (f < 0) = true := by simp; omega
        have HNN : Hid (¬ LatOk nf T fs L) := fun h => by have := h.hF f HFM.out; omega
        go_wp2_with fail
        go_ret
        exact HNO.out _ HNN.out HBr.out
      have e0 : decide (f < 0) = false := by simp; omega
      by_cases b1 : 1099511627776 < f
      · have e1 : decide ((1099511627776 : Int) < f) = true := by simp; omega
        have HNN : Hid (¬ LatOk nf T fs L) := fun h => by have := h.hF f HFM.out; omega
        go_wp2_with fail
        go_ret
        exact HNO.out _ HNN.out HBr.out
      have e1 : decide ((1099511627776 : Int) < f) = false := by simp; omega
      have HOKN := Lib.hid (HNX.out ⟨by omega, by omega⟩)
      go_wp2_with fail
      go_roundw
      case rel => exact ⟨i + 1, by omega, by go_num, (by rw [HFA.out]; exact HKr), HBr, HOKN⟩
      case measure => simp [intOf]; omega
    case neg =>
      have hltD : decide (i < nf) = false := by simp [hlt]
      have HFS : Hid (∀ f ∈ fs, 0 ≤ f ∧ f ≤ 1099511627776) := fun f hf => by
        obtain ⟨j, hj⟩ := List.getElem?_of_mem hf
        exact HA.out j f (by have := (List.getElem?_eq_some_iff.1 hj).1; rw [HLF.out] at this; omega) hj
      clear HA hlt hi ui
      go_upto_region 8 with fail
      go_wp2_with fail
      clear n2
      rename World => w3
      have HK := HKr
      have HB0 := HBr
      have HA0 : Hid (∀ j a, j < 0 → L[j]? = some a → a.Fine nf T) := fun _ _ h => by omega
      have HSO0 : Hid (∀ j a b, j + 1 < 0 → L[j]? = some a → L[j + 1]? = some b → a.bf b) := fun _ _ _ h => by omega
      go_loopw [6] (fun q wr => ∃ i : Nat, i ≤ nL ∧ q = .int .i64 i ∧ Hid (Blk wr bn 28 #[.int .i64 nf, .slice LA nL lc, .slice FA nf fc]) ∧ Hid (Below bn w wr) ∧ Hid (∀ j a, j < i → L[j]? = some a → a.Fine nf T) ∧ Hid (∀ j a b, j + 1 < i → L[j]? = some a → L[j + 1]? = some b → a.bf b)) (fun q _ => nL - (intOf q).toNat)
      case atStart => exact ⟨0, Nat.zero_le _, rfl, HK, HB0, HA0, HSO0⟩
      case round =>
        obtain ⟨i, hi, rfl, HKr, HBr, HA, HSO⟩ := hrel
        clear HK HB0 HA0 HSO0
        have n0 := HKr.out.cell 0
        have n1 := HKr.out.cell 1
        simp at n0 n1
        have ui : IntKind.i64.wrap ((i : Int) + 1) = (i : Int) + 1 := IntWalk.i64_in _ (by omega)
        by_cases hlt : i < nL
        case neg => as_aux_lemma =>
          have hltD : decide (i < nL) = false := by simp [hlt]
          have hok : LatOk nf T fs L := by
            refine ⟨⟨by have := HS1.out; omega, by rw [HLF.out]⟩, HFS.out, fun a ha => ?_, fun j a b ha hb => ?_⟩
            · obtain ⟨j, hj⟩ := List.getElem?_of_mem ha
              rw [Int.toNat_natCast]
              exact HA.out j a (by have := (List.getElem?_eq_some_iff.1 hj).1; rw [HLN.out] at this; omega) hj
            · exact HSO.out j a b (by have := (List.getElem?_eq_some_iff.1 hb).1; rw [HLN.out] at this; omega) ha hb
          have HPP : Hid P := by rw [← HP.out]; exact hok
          clear hok hlt
          go_wp2_with fail
          go_ret
          exact ⟨true, rfl, ⟨fun _ => HPP.out, fun _ => rfl⟩, by rw [HBN.out]; exact HBr.out⟩
        case pos =>
          have hltD : decide (i < nL) = true := by simp [hlt]
          obtain ⟨ba, offa, ar, hLA, hba, har, p0, p1, p2, p3, p4⟩ := (HL.out.below HBr.out).ar_at hlt
          have HAR := Lib.hid har
          have HMM := Lib.hid (List.mem_of_getElem? har)
          have HNA : Hid (ar.Fine nf T → ∀ j a, j < i + 1 → L[j]? = some a → a.Fine nf T) := fun hk j a hj ha => by
            by_cases hji : j = i
            · subst hji
              rw [HAR.out] at ha
              injection ha with ha
              rw [← ha]
              exact hk
            · exact HA.out j a (by omega) ha
          have HLA := Lib.hid hLA
          rw [hLA] at n1 HKr
          go_upto_region 12 with fail
          obtain ⟨w1, hw1⟩ : ∃ w1, wr.alloc (.cells #[.int .i64 ar.fr, .int .i64 ar.tt, .int .i64 ar.tm, .int .i64 ar.co, .slice ar.A ar.n ar.c] 68) = w1 := ⟨_, rfl⟩
          obtain ⟨b7, hb7⟩ : ∃ b7, wr.heap.size = b7 := ⟨_, rfl⟩
          have hbx : Below wr.heap.size wr w1 := by rw [← hw1]; exact (Below.refl _ _).alloc (Nat.le_refl _) _
          have K7 : Blk w1 b7 68 #[.int .i64 ar.fr, .int .i64 ar.tt, .int .i64 ar.tm, .int .i64 ar.co, .slice ar.A ar.n ar.c] := by rw [← hw1]; exact Blk.new' _ _ _ hb7
          have HK1 := Lib.hid (HKr.out.below hbx HKr.out.lt)
          have HB1 : Hid (Below bn w w1) := HBr.out.trans (hbx.mono (by have := HKr.out.lt; omega))
          have HBZ : Hid (bn ≤ w1.heap.size) := Nat.le_of_lt HK1.out.lt
          rw [hw1, hb7]
          simp only [List.append]
          have x0 := ext_cell (K7.cell 0)
          have x1 := ext_cell (K7.cell 1)
          have x2 := ext_cell (K7.cell 2)
          have x3 := ext_cell (K7.cell 3)
          have x4 := ext_cell (K7.cell 4)
          have y0 := ext_cell (HK1.out.cell 0)
          have y1 := ext_cell (HK1.out.cell 1)
          simp at x0 x1 x2 x3 x4 y0 y1
          have HEX : Hid (∀ u : Ext w1, Blk u.W bn 28 #[.int .i64 nf, .slice (some ⟨ba, offa, none⟩) nL lc, .slice FA nf fc] ∧ Below bn w u.W) := fun u => ⟨HK1.out.below u.h HK1.out.lt, HB1.out.trans (u.h.mono HBZ.out)⟩
          clear hw1 hb7 hbx K7 p0 p1 p2 p3 p4 n0 n1 HKr HBr
          have HUF : Hid (¬ ar.Fine nf T → ¬ LatOk nf T fs L) := fun hn h => by have := h.hA ar HMM.out; rw [Int.toNat_natCast] at this; exact hn this
          have HBF : Hid (∀ (w9 : World) (a b : Ar), Calls Tryd.prog 52 #[.agg #[.int .i64 a.fr, .int .i64 a.tt, .int .i64 a.tm, .int .i64 a.co, .slice a.A a.n a.c], .agg #[.int .i64 b.fr, .int .i64 b.tt, .int .i64 b.tm, .int .i64 b.co, .slice b.A b.n b.c]] w9 fun e w' => e = .returned (.bool (decide (a.bf b))) ∧ Below w9.heap.size w9 w') := fun w9 a b => abefore_any w9 a b
          clear har hLA
          by_cases a0 : ar.fr < 0
          · have d0 : decide (ar.fr < 0) = true := by simp; omega
            have HNN : Hid (¬ LatOk nf T fs L) := HUF.out (fun h => by unfold Ar.Fine at h; omega)
            refine wp_region_ext (by kernel_rfl) (by kernel_rfl) ?_
            repeat (go_big_quiet_step (fail))
            refine wpQuiet_nil ?_
            rintro _ ⟨u, rfl⟩
            clear x0 x1 x2 x3 x4 y0 y1
            go_wp2_with fail
            go_ret
            exact HNO.out _ HNN.out (HEX.out u).2
          have d0 : decide (ar.fr < 0) = false := by simp; omega
          by_cases a1 : ar.tt < ar.fr
          · have d1 : decide (ar.tt < ar.fr) = true := by simp; omega
            have HNN : Hid (¬ LatOk nf T fs L) := HUF.out (fun h => by unfold Ar.Fine at h; omega)
            refine wp_region_ext (by kernel_rfl) (by kernel_rfl) ?_
            repeat (go_big_quiet_step (fail))
            refine wpQuiet_nil ?_
            rintro _ ⟨u, rfl⟩
            clear x0 x1 x2 x3 x4 y0 y1
            go_wp2_with fail
            go_ret
            exact HNO.out _ HNN.out (HEX.out u).2
          have d1 : decide (ar.tt < ar.fr) = false := by simp; omega
          by_cases a2 : (nf : Int) ≤ ar.tt
          · have d2 : decide ((nf : Int) ≤ ar.tt) = true := by simp; omega
            have HNN : Hid (¬ LatOk nf T fs L) := HUF.out (fun h => by unfold Ar.Fine at h; omega)
            refine wp_region_ext (by kernel_rfl) (by kernel_rfl) ?_
            repeat (go_big_quiet_step (fail))
            refine wpQuiet_nil ?_
            rintro _ ⟨u, rfl⟩
            clear x0 x1 x2 x3 x4 y0 y1
            go_wp2_with fail
            go_ret
            exact HNO.out _ HNN.out (HEX.out u).2
          have d2 : decide ((nf : Int) ≤ ar.tt) = false := by simp; omega
          by_cases a3 : ar.tm < 0
          · have d3 : decide (ar.tm < 0) = true := by simp; omega
            have HNN : Hid (¬ LatOk nf T fs L) := HUF.out (fun h => by unfold Ar.Fine at h; omega)
            refine wp_region_ext (by kernel_rfl) (by kernel_rfl) ?_
            repeat (go_big_quiet_step (fail))
            refine wpQuiet_nil ?_
            rintro _ ⟨u, rfl⟩
            clear x0 x1 x2 x3 x4 y0 y1
            go_wp2_with fail
            go_ret
            exact HNO.out _ HNN.out (HEX.out u).2
          have d3 : decide (ar.tm < 0) = false := by simp; omega
          by_cases a4 : T ≤ ar.tm
          · have d4 : decide (T ≤ ar.tm) = true := by simp; omega
            have HNN : Hid (¬ LatOk nf T fs L) := HUF.out (fun h => by unfold Ar.Fine at h; omega)
            refine wp_region_ext (by kernel_rfl) (by kernel_rfl) ?_
            repeat (go_big_quiet_step (fail))
            refine wpQuiet_nil ?_
            rintro _ ⟨u, rfl⟩
            clear x0 x1 x2 x3 x4 y0 y1
            go_wp2_with fail
            go_ret
            exact HNO.out _ HNN.out (HEX.out u).2
          have d4 : decide (T ≤ ar.tm) = false := by simp; omega
          by_cases a5 : ar.co < 0
          · have d5 : decide (ar.co < 0) = true := by simp; omega
            have HNN : Hid (¬ LatOk nf T fs L) := HUF.out (fun h => by unfold Ar.Fine at h; omega)
            refine wp_region_ext (by kernel_rfl) (by kernel_rfl) ?_
            repeat (go_big_quiet_step (fail))
            refine wpQuiet_nil ?_
            rintro _ ⟨u, rfl⟩
            clear x0 x1 x2 x3 x4 y0 y1
            go_wp2_with fail
            go_ret
            exact HNO.out _ HNN.out (HEX.out u).2
          have d5 : decide (ar.co < 0) = false := by simp; omega
          by_cases a6 : 1099511627776 ≤ ar.co
          · have d6 : decide ((1099511627776 : Int) ≤ ar.co) = true := by simp; omega
            have HNN : Hid (¬ LatOk nf T fs L) := HUF.out (fun h => by unfold Ar.Fine at h; omega)
            refine wp_region_ext (by kernel_rfl) (by kernel_rfl) ?_
            repeat (go_big_quiet_step (fail))
            refine wpQuiet_nil ?_
            rintro _ ⟨u, rfl⟩
            clear x0 x1 x2 x3 x4 y0 y1
            go_wp2_with fail
            go_ret
            exact HNO.out _ HNN.out (HEX.out u).2
          have d6 : decide ((1099511627776 : Int) ≤ ar.co) = false := by simp; omega
          by_cases g0 : ar.fr = ar.tt ∧ ar.co = 0
          · have r0 : (ar.fr == ar.tt) = true := by simp [g0.1]
            have r1 : (ar.co == 0) = true := by simp [g0.2]
            have HNN : Hid (¬ LatOk nf T fs L) := HUF.out (fun h => by unfold Ar.Fine at h; exact h.2.2.2.2.2.2.2 g0)
            clear g0
            refine wp_region_ext (by kernel_rfl) (by kernel_rfl) ?_
            repeat (go_big_quiet_step (fail))
            refine wpQuiet_nil ?_
            rintro _ ⟨u, rfl⟩
            clear x0 x1 x2 x3 x4 y0 y1
            go_wp2_with fail
            go_ret
            exact HNO.out _ HNN.out (HEX.out u).2
          have HFN := Lib.hid (HNA.out (show ar.Fine nf T from ⟨by omega, by omega, by omega, by omega, by omega, by omega, by omega, g0⟩))
          have hg : ((ar.fr == ar.tt) = false) ∨ ((ar.fr == ar.tt) = true ∧ (ar.co == 0) = false) := by
            by_cases h1 : ar.fr = ar.tt
            · right; exact ⟨by simp [h1], by simp; exact fun h => g0 ⟨h1, h⟩⟩
            · left; simp [h1]
          clear g0 a0 a1 a2 a3 a4 a5 a6
          rcases Nat.eq_zero_or_pos i with hi0 | hi0
          · subst hi0
            have r0 : decide ((0 : Int) < ((0 : Nat) : Int)) = false := by simp
            have HSN : Hid (∀ j a b, j + 1 < 0 + 1 → L[j]? = some a → L[j + 1]? = some b → a.bf b) := fun _ _ _ h => by omega
            rcases hg with g1 | ⟨g1, g2⟩
            all_goals
              refine wp_region_ext (by kernel_rfl) (by kernel_rfl) ?_
              repeat (go_big_quiet_step (fail))
              refine wpQuiet_nil ?_
              rintro _ ⟨u, rfl⟩
              clear x0 x1 x2 x3 x4 y0 y1
              go_wp2_with fail
              go_roundw
              case rel => exact ⟨_, by omega, by go_num, (by rw [HLA.out]; exact (HEX.out u).1), (HEX.out u).2, HFN, HSN⟩
              case measure => simp [intOf]; omega
          · obtain ⟨m, rfl⟩ : ∃ m, i = m + 1 := ⟨i - 1, by omega⟩
            have r0 : decide ((0 : Int) < ((m + 1 : Nat) : Int)) = true := by rw [decide_eq_true_eq]; omega
            have r0' : decide (0 < m + 1) = true := by simp
            have um : IntKind.i64.wrap (((m + 1 : Nat) : Int) - 1) = (m : Int) := by rw [show (((m + 1 : Nat) : Int) - 1) = (m : Int) by omega]; exact IntWalk.i64_in _ (by omega)
            have um' : IntKind.i64.wrap ((m : Int) + 1 - 1) = (m : Int) := by rw [show ((m : Int) + 1 - 1) = (m : Int) by omega]; exact IntWalk.i64_in _ (by omega)
            have hmn : m < nL := by omega
            obtain ⟨ba2, offa2, ap, hLA2, _, hap, s0, s1, s2, s3, s4⟩ := (HL.out.below HB1.out).ar_at hmn
            rw [HLA.out] at hLA2
            injection hLA2 with hLA2
            injection hLA2 with h1 h2
            subst h1 h2
            have HAP := Lib.hid hap
            clear hap
            have z0 := ext_cell s0
            have z1 := ext_cell s1
            have z2 := ext_cell s2
            have z3 := ext_cell s3
            have z4 := ext_cell s4
            clear s0 s1 s2 s3 s4
            obtain ⟨q, hq⟩ : ∃ q, decide (ap.bf ar) = q := ⟨_, rfl⟩
            have HB9 := Lib.hid (fun w9 : World => by have h := HBF.out w9 ap ar; rw [hq] at h; exact h)
            have HQ := Lib.hid hq
            clear hq HBF
            cases q with
            | false =>
              have HNN : Hid (¬ LatOk nf T fs L) := fun h => by have h2 := h.so m ap ar HAP.out HAR.out; have := HQ.out; simp at this; exact this h2
              rcases hg with g1 | ⟨g1, g2⟩
              all_goals
                refine wp_region_ext (by kernel_rfl) (by kernel_rfl) ?_
                repeat (go_big_quiet_step (exact calls_ext (HB9.out _)))
                refine wpQuiet_nil ?_
                rintro _ ⟨u, rfl⟩
                clear x0 x1 x2 x3 x4 y0 y1
                clear z0 z1 z2 z3 z4
                go_wp2_with fail
                go_ret
                exact HNO.out _ HNN.out (HEX.out u).2
            | true =>
              have HSN : Hid (∀ j a b, j + 1 < m + 1 + 1 → L[j]? = some a → L[j + 1]? = some b → a.bf b) := fun j a b hj ha hb => by
                by_cases hjm : j = m
                · subst hjm
                  rw [HAP.out] at ha
                  rw [HAR.out] at hb
                  injection ha with ha
                  injection hb with hb
                  rw [← ha, ← hb]
                  have := HQ.out
                  simpa using this
                · exact HSO.out j a b (by omega) ha hb
              rcases hg with g1 | ⟨g1, g2⟩
              all_goals
                refine wp_region_ext (by kernel_rfl) (by kernel_rfl) ?_
                repeat (go_big_quiet_step (exact calls_ext (HB9.out _)))
                refine wpQuiet_nil ?_
                rintro _ ⟨u, rfl⟩
                clear x0 x1 x2 x3 x4 y0 y1
                clear z0 z1 z2 z3 z4
                go_wp2_with fail
                go_roundw
                case rel => exact ⟨_, by omega, by go_num, (by rw [HLA.out]; exact (HEX.out u).1), (HEX.out u).2, HFN, HSN⟩
                case measure => simp [intOf]; omega
end Go.Proofs.YthakcefgbggkcaaDoor
