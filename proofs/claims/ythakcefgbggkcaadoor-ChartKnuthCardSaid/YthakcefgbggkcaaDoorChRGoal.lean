/- The reference's Goal. -/
import Derived.Test.YthakcefgbggkcaaDoorCMj
import Derived.Test.YthakcefgbggkcaaDoorCMb
import Derived.Deep.DeepCutAuto
namespace Go.Proofs.YthakcefgbggkcaaDoor
open Go.RowKit

theorem reads_one_at (w : World) (v : Vl) {g : Nat} (h : w.heap.size = g) : Reads (w.alloc (.cells #[.int .i64 v.c, .int .i64 v.s] 45)) (g + 1) 2 (some ⟨g, 0, none⟩) 1 (vls [v]) := by
  subst h
  exact reads_one w v
set_option maxRecDepth 100000 in
set_option maxHeartbeats 8000000 in
theorem rgoal_any (w : World) (T st : Int) (N S nR rc nL lc nf fc nc cc B : Nat) (RA LA FA CA : Option Addr) (fs : List Int) (cs : List Cl) (hF : Reads w B 1 FA nf (ints fs)) (hC : Reads w B 4 CA nc (cls cs)) (hB : B ≤ w.heap.size)
    (hN : N ≤ 10000) (hS : S ≤ 10000) (hnc : nc ≤ 1000000000) (hnf : nf = S) (hf : ∀ f ∈ fs, 0 ≤ f) (hcs : ∀ x, Ordy (atC N S cs x).v) :
    Calls Tryd.prog 24 #[.agg #[.int .i64 T, .int .i64 N, .int .i64 st, .slice RA nR rc], .agg #[.int .i64 S, .slice LA nL lc, .slice FA nf fc], .agg #[.int .i64 N, .int .i64 S, .slice CA nc cc]] w fun e w' =>
      e = .returned (.tuple #[.agg #[.int .i64 (gto N S st cs fs S).1.c, .int .i64 (gto N S st cs fs S).1.s], .int .i64 (gto N S st cs fs S).2]) ∧ Below w.heap.size w w' := by
  subst hnf
  obtain ⟨bn, hbn⟩ : ∃ bn, w.heap.size = bn := ⟨_, rfl⟩
  obtain ⟨k1, hk1⟩ : ∃ k1 : Array Value, #[.int .i64 T, .int .i64 N, .int .i64 st, .slice RA nR rc] = k1 := ⟨_, rfl⟩
  obtain ⟨k2, hk2⟩ : ∃ k2 : Array Value, #[.int .i64 nf, .slice LA nL lc, .slice FA nf fc] = k2 := ⟨_, rfl⟩
  obtain ⟨k3, hk3⟩ : ∃ k3 : Array Value, #[.int .i64 N, .int .i64 nf, .slice CA nc cc] = k3 := ⟨_, rfl⟩
  obtain ⟨W, hW⟩ : ∃ W, (((((w.alloc (.cells #[.int .i64 T, .int .i64 N, .int .i64 st, .slice RA nR rc] 24)).alloc (.cells #[.int .i64 nf, .slice LA nL lc, .slice FA nf fc] 28)).alloc (.cells #[.int .i64 N, .int .i64 nf, .slice CA nc cc] 34)).alloc (.cells #[.int .i64 0, .int .i64 0] 45)).alloc (.cells #[.int .i64 1099511627776, .int .i64 0] 45)) = W := ⟨_, rfl⟩
  have HG0 : Hid (GM w W bn k1 k2 k3 vtop) := by
    rw [← hW, ← hk1, ← hk2, ← hk3]
    refine ⟨((((Blk.new' w _ _ hbn).alloc _).alloc _).alloc _).alloc _, (((Blk.new' _ _ _ (by simp; omega)).alloc _).alloc _).alloc _, ((Blk.new' _ _ _ (by simp; omega)).alloc _).alloc _, (Blk.new' _ _ _ (by simp; omega)).alloc _, Blk.new' _ _ _ (by simp; omega), ?_⟩
    exact (((((Below.refl _ _).alloc (by omega) _).alloc (by simp; omega) _).alloc (by simp; omega) _).alloc (by simp; omega) _).alloc (by simp; omega) _
  have HF := Lib.hid (hF.more hB)
  have HC := Lib.hid (hC.more hB)
  have HFN := Lib.hid hf
  have HCO := Lib.hid hcs
  have HK := Lib.hid (And.intro hk1 (And.intro hk2 hk3))
  have HBN := Lib.hid hbn
  have HW := Lib.hid hW
  clear hF hC hB hf hcs hk1 hk2 hk3 hW
  go_enter Tryd.func24, Tryd.ntmps24
  go_upto_region 2 with fail
  try rw [hbn]
  rw [HW.out]
  rw [show bn + 1 + 1 = bn + 2 by rfl, show bn + 2 + 1 = bn + 3 by rfl, show bn + 3 + 1 = bn + 4 by rfl]
  clear hbn
  go_wp2_with fail
  go_loopw [9, 10] (fun s x wr => ∃ i : Nat, i ≤ nf ∧ x = .int .i64 i ∧ s = .int .i64 (gto N nf st cs fs i).2 ∧ Hid (GM w wr bn k1 k2 k3 (gto N nf st cs fs i).1)) (fun _ x _ => nf - (intOf x).toNat)
  case atStart => exact ⟨0, Nat.zero_le _, rfl, rfl, HG0⟩
  case round =>
    obtain ⟨i, hi, rfl, rfl, HGM⟩ := hrel
    clear HG0
    obtain ⟨b, hb⟩ : ∃ b, gto N nf st cs fs i = b := ⟨_, rfl⟩
    rw [hb] at HGM ⊢
    have l0 : wr.cell? ⟨bn + 1, 0, none⟩ = some (.int .i64 nf) := by have := HGM.out.k2.cell 0; rw [← HK.out.2.1] at this; simpa using this
    by_cases hlt : i < nf
    case neg => as_aux_lemma =>
      have hltD : decide (i < nf) = false := by simp [hlt]
      obtain rfl : i = nf := by omega
      have r3 := HGM.out.k4.set2 (.int .i64 b.1.c) (.int .i64 b.1.s)
      have a0 := HGM.out.k5.cell 0
      have a1 := HGM.out.k5.cell 1
      have r0 := HGM.out.k4.cell 0
      have r1 := HGM.out.k4.cell 1
      have z0 := HGM.out.k4.frozen 0
      have z1 := HGM.out.k4.frozen 1
      simp at a0 a1 r0 r1
      have HF2 : Hid (Below w.heap.size w ((wr.setCell ⟨bn + 3, 0, none⟩ (.int .i64 b.1.c)).setCell ⟨bn + 3, 1, none⟩ (.int .i64 b.1.s))) := by
        rw [HBN.out]
        exact (HGM.out.below.setCell (p := ⟨bn + 3, 0, none⟩) (by show bn ≤ bn + 3; omega) _).setCell (p := ⟨bn + 3, 1, none⟩) (by show bn ≤ bn + 3; omega) _
      go_wp2_with fail
      rw [hb]
      exact bodyPost_ret (results_goal rfl rfl rfl (r3.cell 0) (r3.cell 1)) rfl ⟨rfl, HF2.out⟩
    case pos =>
      have hltD : decide (i < nf) = true := by simp [hlt]
      have hfb := HF.out.below (by rw [HBN.out]; exact HGM.out.below)
      obtain ⟨bf, of, hFA, hbf, p0⟩ := hfb.int_at hlt
      obtain ⟨f, hfi⟩ : ∃ f, fs[i]? = some f := ⟨_, List.getElem?_eq_getElem (by have := hfb.len_ints; omega)⟩
      have hf0 := HFN.out f (List.mem_of_getElem? hfi)
      rw [hfi] at p0
      simp only [Option.getD_some] at p0
      have hgs : gto N nf st cs fs (i + 1) = gst N nf st cs b i f := by show gst _ _ _ _ (gto N nf st cs fs i) i (fs[i]?.getD 0) = _; rw [hb, hfi]; rfl
      have HGS := Lib.hid hgs
      have HFA := Lib.hid hFA
      rw [hFA]
      have l2 : wr.cell? ⟨bn + 1, 2, none⟩ = some (.slice (some ⟨bf, of, none⟩) nf fc) := by have := HGM.out.k2.cell 2; rw [← HK.out.2.1, HFA.out] at this; simpa using this
      have ui : IntKind.i64.wrap ((i : Int) + 1) = (i : Int) + 1 := IntWalk.i64_in _ (by omega)
      clear hgs hfb hfi hb hFA
      by_cases hfin : f < 1099511627776
      case neg => as_aux_lemma =>
        have d0 : decide ((1099511627776 : Int) ≤ f) = true := by simp; omega
        have hg2 : gto N nf st cs fs (i + 1) = b := by rw [HGS.out]; unfold gst; rw [if_neg (fun h => hfin h.1)]
        go_wp2_with fail
        go_roundw
        case rel => exact ⟨i + 1, by omega, by go_num, by rw [hg2], by rw [hg2]; exact HGM⟩
        case measure => simp [intOf]; omega
      case pos =>
        have d0 : decide ((1099511627776 : Int) ≤ f) = false := by simp; omega
        obtain ⟨x, hx⟩ : ∃ x, atC N nf cs ⟨st, 0, i⟩ = x := ⟨_, rfl⟩
        have hxo : Ordy x.v := by rw [← hx]; exact HCO.out _
        have HXO := Lib.hid hxo
        have hsz : bn ≤ wr.heap.size := by have := HGM.out.k1.lt; omega
        have HAT : Hid (∀ w9, Below wr.heap.size wr w9 → Calls Tryd.prog 26 #[.agg #[.int .i64 N, .int .i64 nf, .slice CA nc cc], .agg #[.int .i64 st, .int .i64 0, .int .i64 i]] w9 fun e w' => e = .returned (.agg #[.int .i64 x.v.c, .int .i64 x.v.s, .int .i64 x.r, .int .i64 x.a]) ∧ Below w9.heap.size w9 w') := fun w9 h9 => by
          have h := rat_any N nf nc cc bn CA cs ⟨st, 0, i⟩ w9 (by have h1 := HC.out; rw [HBN.out] at h1; exact h1.below (HGM.out.below.trans (h9.mono hsz))) (Nat.le_trans hsz h9.size) hN hS (by omega)
          rw [hx] at h
          exact h
        obtain ⟨v, hv⟩ : ∃ v, comb f [x.v] = v := ⟨_, rfl⟩
        have HCB : Hid (∀ (w9 : World) (A : Option Addr) (c B : Nat), Reads w9 B 2 A 1 (vls [x.v]) → B ≤ w9.heap.size → Calls Tryd.prog 25 #[.int .i64 f, .slice A 1 c] w9 fun e' w' => e' = .returned (.agg #[.int .i64 v.c, .int .i64 v.s]) ∧ Below w9.heap.size w9 w') := fun w9 A c B h1 h2 => by
          rw [← hv]
          exact rcombine_any f A 1 c B [x.v] w9 h1 h2 hf0 (by omega) (by intro u hu; simp at hu; rw [hu]; exact HXO.out) (by omega)
        have hgs2 : gto N nf st cs fs (i + 1) = if v.c < 1099511627776 ∧ (b.2 < 0 ∨ vlt v.c v.s b.1.c b.1.s = true) then (v, (i : Int)) else b := by
          rw [HGS.out]
          unfold gst
          rw [hx, hv]
          simp only [hfin, true_and]
        have HGS2 := Lib.hid hgs2
        have hfd : ∀ (c s r x : Int) (w : World), (Instr.field 47 (.agg #[.int .i64 c, .int .i64 s, .int .i64 r, .int .i64 x]) 0).run Tryd.prog w = .ok (.agg #[.int .i64 c, .int .i64 s]) w := fun _ _ _ _ _ => by kernel_rfl
        have H9 : Hid (∀ w', Below wr.heap.size wr w' → w'.cell? ⟨bn + 1, 2, none⟩ = some (.slice (some ⟨bf, of, none⟩) nf fc) ∧ w'.cell? ⟨bf, of + i, none⟩ = some (.int .i64 f) ∧ w'.cell? ⟨bn, 2, none⟩ = some (.int .i64 st) ∧ w'.cell? ⟨bn + 2, 0, none⟩ = some (.int .i64 N) ∧ w'.cell? ⟨bn + 2, 1, none⟩ = some (.int .i64 nf) ∧ w'.cell? ⟨bn + 2, 2, none⟩ = some (.slice CA nc cc)) := fun w9 h9 => by
          have K := HGM.out.next h9
          have a1 := K.k2.cell 2
          have a2 := K.k1.cell 2
          have a3 := K.k3.cell 0
          have a4 := K.k3.cell 1
          have a5 := K.k3.cell 2
          rw [← HK.out.2.1, HFA.out] at a1
          rw [← HK.out.1] at a2
          rw [← HK.out.2.2] at a3 a4 a5
          exact ⟨a1, (h9.cell (p := ⟨bf, of + i, none⟩) (World.block_lt_of_cell? wr _ p0)).trans p0, a2, a3, a4, a5⟩
        clear hgs2 hv hx hxo HGS
        go_upto_region 6 with fail
        have B8 : Below wr.heap.size wr wr.drew := (Below.refl _ _).drew
        have B8a : Below wr.heap.size wr (wr.alloc (.cells #[.int .i64 0, .int .i64 0] 45)).drew := ((Below.refl _ wr).alloc (Nat.le_refl _) _).drew
        have Z8 : Blk (wr.alloc (.cells #[.int .i64 0, .int .i64 0] 45)).drew wr.heap.size 45 #[.int .i64 0, .int .i64 0] := Blk.drewN (Blk.new' wr _ _ rfl) 1
        have hz8 : wr.heap.size < (wr.alloc (.cells #[.int .i64 0, .int .i64 0] 45)).drew.heap.size := Z8.lt
        go_cut [11] (fun xp wx => ∃ g : Nat, xp = .pointer (some ⟨g, 0, none⟩) ∧ Blk wx g 45 #[.int .i64 v.c, .int .i64 v.s] ∧ Below wr.heap.size wr wx)
        case first =>
          go_region_held3 (fun w' => w'.cell? ⟨bn + 1, 2, none⟩ = some (.slice (some ⟨bf, of, none⟩) nf fc) ∧ w'.cell? ⟨bf, of + i, none⟩ = some (.int .i64 f) ∧ w'.cell? ⟨bn, 2, none⟩ = some (.int .i64 st) ∧ w'.cell? ⟨bn + 2, 0, none⟩ = some (.int .i64 N) ∧ w'.cell? ⟨bn + 2, 1, none⟩ = some (.int .i64 nf) ∧ w'.cell? ⟨bn + 2, 2, none⟩ = some (.slice CA nc cc))
            (first | exact H9.out _ B8 | exact H9.out _ B8a | exact H9.out _ X4 | exact H9.out _ (X4.alloc hz4 _) | exact H9.out _ ((X4.alloc hz4 _).alloc (by simp <;> omega) _) | exact H9.out _ X5 | exact H9.out _ (X5.alloc hz5 _) | exact H9.out _ ((X5.setCell (p := ⟨wr.heap.size, 0, none⟩) (Nat.le_refl _) _).setCell (p := ⟨wr.heap.size, 1, none⟩) (Nat.le_refl _) _) | exact H9.out _ ((X5.setCell (p := ⟨w4.heap.size, 0, none⟩) hz4 _).setCell (p := ⟨w4.heap.size, 1, none⟩) hz4 _) | exact H9.out _ ((X5.setCell (p := ⟨w4.heap.size + 1, 0, none⟩) hz41 _).setCell (p := ⟨w4.heap.size + 1, 1, none⟩) hz41 _))
            (first
              | (go_at_call 26; (with_reducible refine (HAT.out _ B8).mono ?_); rintro e4 w4 ⟨rfl, hb4⟩; have X4 : Below wr.heap.size wr w4 := B8.trans (hb4.mono B8.size); have hz4 : wr.heap.size ≤ w4.heap.size := X4.size; have hz41 : wr.heap.size ≤ w4.heap.size + 1 := Nat.le_succ_of_le hz4)
              | (go_at_call 26; (with_reducible refine (HAT.out _ B8a).mono ?_); rintro e4 w4 ⟨rfl, hb4⟩; have X4 : Below wr.heap.size wr w4 := B8a.trans (hb4.mono B8a.size); have hz4 : wr.heap.size ≤ w4.heap.size := X4.size; have hz41 : wr.heap.size ≤ w4.heap.size + 1 := Nat.le_succ_of_le hz4; have Z4 := Z8.below hb4 hz8)
              | (go_at_call 25; (with_reducible refine (HCB.out _ (some ⟨w4.heap.size, 0, none⟩) 1 (w4.heap.size + 1) (reads_one w4 x.v) (by simp)).mono ?_); rintro e5 w5 ⟨rfl, hb5⟩; have X5 : Below wr.heap.size wr w5 := (X4.alloc hz4 (.cells #[.int .i64 x.v.c, .int .i64 x.v.s] 45)).trans (hb5.mono (by simp <;> omega)); have hz5 : wr.heap.size ≤ w5.heap.size := X5.size; have Z5 := (Z4.alloc (.cells #[.int .i64 x.v.c, .int .i64 x.v.s] 45)).below hb5 (Z4.alloc (.cells #[.int .i64 x.v.c, .int .i64 x.v.s] 45)).lt; have n0 := Z5.cell 0; have n1 := Z5.cell 1; simp at n0 n1; have m0 := Z5.frozen 0; have m1 := Z5.frozen 1)
              | (go_at_call 25; (with_reducible refine (HCB.out _ (some ⟨w4.heap.size, 0, none⟩) 1 (w4.heap.size + 1) (reads_one w4 x.v) (by simp)).mono ?_); rintro e5 w5 ⟨rfl, hb5⟩; have X5 : Below wr.heap.size wr w5 := (X4.alloc hz4 (.cells #[.int .i64 x.v.c, .int .i64 x.v.s] 45)).trans (hb5.mono (by simp <;> omega)); have hz5 : wr.heap.size ≤ w5.heap.size := X5.size)
              | (go_at_call 25; (with_reducible refine (HCB.out _ (some ⟨w4.heap.size, 0, none⟩) 1 (w4.heap.size + 1) ((reads_one w4 x.v).alloc (by simp) (.cells #[.int .i64 0, .int .i64 0] 45)) (by simp <;> omega)).mono ?_); rintro e5 w5 ⟨rfl, hb5⟩; have X5 : Below wr.heap.size wr w5 := ((X4.alloc hz4 (.cells #[.int .i64 x.v.c, .int .i64 x.v.s] 45)).alloc (by simp <;> omega) (.cells #[.int .i64 0, .int .i64 0] 45)).trans (hb5.mono (by simp <;> omega)); have hz5 : wr.heap.size ≤ w5.heap.size := X5.size; have Z5 : Blk w5 (w4.heap.size + 1) 45 #[.int .i64 0, .int .i64 0] := (Blk.new' (w4.alloc (.cells #[.int .i64 x.v.c, .int .i64 x.v.s] 45)) 45 #[.int .i64 0, .int .i64 0] (g := w4.heap.size + 1) (by simp)).below hb5 (by simp); have n0 := Z5.cell 0; have n1 := Z5.cell 1; simp at n0 n1; have m0 := Z5.frozen 0; have m1 := Z5.frozen 1)
              | (go_at_call 25; (with_reducible refine (HCB.out _ (some ⟨w4.heap.size + 1, 0, none⟩) 1 (w4.heap.size + 1 + 1) (reads_one_at (w4.alloc (.cells #[.int .i64 0, .int .i64 0] 45)) x.v (by simp)) (by simp)).mono ?_); rintro e5 w5 ⟨rfl, hb5⟩; have X5 : Below wr.heap.size wr w5 := ((X4.alloc hz4 (.cells #[.int .i64 0, .int .i64 0] 45)).alloc (by simp <;> omega) (.cells #[.int .i64 x.v.c, .int .i64 x.v.s] 45)).trans (hb5.mono (by simp <;> omega)); have hz5 : wr.heap.size ≤ w5.heap.size := X5.size; have Z5 : Blk w5 w4.heap.size 45 #[.int .i64 0, .int .i64 0] := ((Blk.new' w4 45 #[.int .i64 0, .int .i64 0] rfl).alloc (.cells #[.int .i64 x.v.c, .int .i64 x.v.s] 45)).below hb5 (by simp <;> omega); have n0 := Z5.cell 0; have n1 := Z5.cell 1; simp at n0 n1; have m0 := Z5.frozen 0; have m1 := Z5.frozen 1))
          all_goals
            go_wp2_with fail
            go_meet
          · exact ⟨_, rfl, Blk.new' w5 _ _ rfl, X5.alloc hz5 _⟩
          · exact ⟨_, rfl, Z5.set2 _ _, (X5.setCell (p := ⟨w4.heap.size + 1, 0, none⟩) hz41 _).setCell (p := ⟨w4.heap.size + 1, 1, none⟩) hz41 _⟩
          · exact ⟨_, rfl, Z5.set2 _ _, (X5.setCell (p := ⟨w4.heap.size, 0, none⟩) hz4 _).setCell (p := ⟨w4.heap.size, 1, none⟩) hz4 _⟩
          · exact ⟨_, rfl, Z5.set2 _ _, (X5.setCell (p := ⟨wr.heap.size, 0, none⟩) (Nat.le_refl _) _).setCell (p := ⟨wr.heap.size, 1, none⟩) (Nat.le_refl _) _⟩
        case rest =>
          obtain ⟨bv, rfl, kv, hx6⟩ := hcut
          rename World => w6
          have HGM6 : Hid (GM w w6 bn k1 k2 k3 b.1) := HGM.out.next hx6
          have HKV := Lib.hid kv
          have x0 := HKV.out.cell 0
          have x1 := HKV.out.cell 1
          have y0 := HGM6.out.k5.cell 0
          have y1 := HGM6.out.k5.cell 1
          have z0 := HGM6.out.k5.frozen 0
          have z1 := HGM6.out.k5.frozen 1
          simp at x0 x1 y0 y1
          clear kv hx6 HGM HAT HCB hfd p0 l0 l2 hsz H9 B8 B8a Z8 hz8
          have HPUT := Lib.hid (HGM6.out.put v)
          by_cases h1 : v.c < 1099511627776
          case neg => as_aux_lemma =>
            have d1 : decide (v.c < 1099511627776) = false := by simp; omega
            have hg2 : gto N nf st cs fs (i + 1) = b := by rw [HGS2.out, if_neg (fun h => h1 h.1)]
            go_wp2_with fail
            go_roundw
            case rel => exact ⟨i + 1, by omega, by go_num, by rw [hg2], by rw [hg2]; exact HGM6⟩
            case measure => simp [intOf]; omega
          case pos =>
            have d1 : decide (v.c < 1099511627776) = true := by simp; omega
            by_cases h2 : b.2 < 0
            case pos => as_aux_lemma =>
              have d2 : decide (b.2 < 0) = true := by simp; omega
              have hg2 : gto N nf st cs fs (i + 1) = (v, (i : Int)) := by rw [HGS2.out, if_pos ⟨h1, .inl h2⟩]
              go_wp2_with fail
              go_roundw
              case rel => exact ⟨i + 1, by omega, by go_num, by rw [hg2], by rw [hg2]; exact HPUT⟩
              case measure => simp [intOf]; omega
            case neg =>
              have d2 : decide (b.2 < 0) = false := by simp; omega
              obtain ⟨u, hu⟩ : ∃ u, vlt v.c v.s b.1.c b.1.s = u := ⟨_, rfl⟩
              have hls := rless_any v.c v.s b.1.c b.1.s w6
              rw [hu] at hls
              have HLS := Lib.hid hls
              have HU := Lib.hid hu
              clear hls hu
              cases u with
              | true => as_aux_lemma =>
                have hg2 : gto N nf st cs fs (i + 1) = (v, (i : Int)) := by rw [HGS2.out, if_pos ⟨h1, .inr HU.out⟩]
                go_wp2_with (go_at_call 27; with_reducible refine HLS.out.mono ?_; rintro e w7 ⟨rfl, hb7⟩; have HGM7 := Lib.hid (HGM6.out.next hb7); have HKV7 := Lib.hid (HKV.out.below hb7 HKV.out.lt); have x0 := HKV7.out.cell 0; have x1 := HKV7.out.cell 1; have y0 := HGM7.out.k5.cell 0; have y1 := HGM7.out.k5.cell 1; have z0 := HGM7.out.k5.frozen 0; have z1 := HGM7.out.k5.frozen 1; simp at x0 x1 y0 y1; have HPUT7 := Lib.hid (HGM7.out.put v); clear hb7)
                go_roundw
                case rel => exact ⟨i + 1, by omega, by go_num, by rw [hg2], by rw [hg2]; exact HPUT7⟩
                case measure => simp [intOf]; omega
              | false => as_aux_lemma =>
                have hg2 : gto N nf st cs fs (i + 1) = b := by rw [HGS2.out, if_neg (fun h => by rcases h.2 with h3 | h3; exact h2 h3; rw [HU.out] at h3; cases h3)]
                go_wp2_with (go_at_call 27; with_reducible refine HLS.out.mono ?_; rintro e w7 ⟨rfl, hb7⟩; have HGM7 := Lib.hid (HGM6.out.next hb7); clear hb7)
                go_roundw
                case rel => exact ⟨i + 1, by omega, by go_num, by rw [hg2], by rw [hg2]; exact HGM7⟩
                case measure => simp [intOf]; omega
/-- A final state. -/
def gval (N S : Nat) (st : Int) (cs : List Cl) (fs : List Int) (j : Nat) : Vl := comb (fs[j]?.getD 0) [(atC N S cs ⟨st, 0, j⟩).v]
theorem vlt_iff_ {c s c' s' : Int} : vlt c s c' s' = true ↔ (c < c' ∨ (c = c' ∧ s < s')) := by unfold vlt; simp
theorem comb_top {f : Int} {l : List Vl} (hf : 1099511627776 ≤ f) (hl : ∀ v ∈ l, Ordy v) : ¬ (comb f l).c < 1099511627776 := fun h => by
  have := (comb_cost_lt hl (by omega) h).1
  omega
/-- The goal is the least over the final states. -/
theorem gto_min (N S : Nat) (st : Int) (cs : List Cl) (fs : List Int) (hcs : ∀ x, Ordy (atC N S cs x).v) : ∀ i, (∀ j < i, (gval N S st cs fs j).c < 1099511627776 → vlt (gval N S st cs fs j).c (gval N S st cs fs j).s (gto N S st cs fs i).1.c (gto N S st cs fs i).1.s = false) ∧ ((gto N S st cs fs i).2 < 0 → ∀ j < i, ¬ (gval N S st cs fs j).c < 1099511627776)
  | 0 => ⟨fun j h => by omega, fun _ j h => by omega⟩
  | i + 1 => by
    obtain ⟨ih1, ih2⟩ := gto_min N S st cs fs hcs i
    obtain ⟨b, hb⟩ : ∃ b, gto N S st cs fs i = b := ⟨_, rfl⟩
    have hg : gto N S st cs fs (i + 1) = if fs[i]?.getD 0 < 1099511627776 ∧ (gval N S st cs fs i).c < 1099511627776 ∧ (b.2 < 0 ∨ vlt (gval N S st cs fs i).c (gval N S st cs fs i).s b.1.c b.1.s = true) then (gval N S st cs fs i, (i : Int)) else b := by
      show gst N S st cs (gto N S st cs fs i) i (fs[i]?.getD 0) = _
      rw [hb]
      rfl
    rw [hb] at ih1 ih2
    have hfin : (gval N S st cs fs i).c < 1099511627776 → fs[i]?.getD 0 < 1099511627776 := fun h => by
      apply Classical.byContradiction
      intro hc
      exact comb_top (by omega) (by intro u hu; simp at hu; rw [hu]; exact hcs _) h
    rw [hg]
    have nlt : ∀ {a b : Vl}, vlt a.c a.s b.c b.s = false ↔ ¬ (a.c < b.c ∨ (a.c = b.c ∧ a.s < b.s)) := fun {a b} => by
      rw [← vlt_iff_]
      cases vlt a.c a.s b.c b.s <;> simp
    by_cases hp : fs[i]?.getD 0 < 1099511627776 ∧ (gval N S st cs fs i).c < 1099511627776 ∧ (b.2 < 0 ∨ vlt (gval N S st cs fs i).c (gval N S st cs fs i).s b.1.c b.1.s = true)
    · rw [if_pos hp]
      refine ⟨fun j hj hjf => ?_, fun h => by simp only at h; omega⟩
      rw [nlt]
      simp only
      by_cases hji : j = i
      · subst hji; omega
      · rcases hp.2.2 with h | h
        · exact absurd hjf (ih2 h j (by omega))
        · have h1 := ih1 j (by omega) hjf
          rw [nlt] at h1
          rw [vlt_iff_] at h
          omega
    · rw [if_neg hp]
      refine ⟨fun j hj hjf => ?_, fun h j hj hjf => ?_⟩
      · by_cases hji : j = i
        · subst hji
          cases hv : vlt (gval N S st cs fs j).c (gval N S st cs fs j).s b.1.c b.1.s with
          | false => rfl
          | true => exact absurd ⟨hfin hjf, hjf, .inr hv⟩ hp
        · exact ih1 j (by omega) hjf
      · by_cases hji : j = i
        · subst hji
          exact hp ⟨hfin hjf, hjf, .inl h⟩
        · exact ih2 h j (by omega) hjf
end Go.Proofs.YthakcefgbggkcaaDoor
