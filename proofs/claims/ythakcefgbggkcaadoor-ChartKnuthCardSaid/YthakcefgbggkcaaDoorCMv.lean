/- Instances: binary. -/
import Derived.Test.YthakcefgbggkcaaDoorCMe
namespace Go.Proofs.YthakcefgbggkcaaDoor
open Go.RowKit

section
variable {a : SP} {fid : Nat} {caps : Array Value} {I : List Ins → (Nat → Prop) → World → Prop} {Fin : (Nat → Prop) → World → Prop}
def splitAt (s t : Nat) (r : Rl) (m : Nat) : Ins := ⟨m, r.p, [⟨r.a, s, m⟩, ⟨r.b, m, t⟩]⟩
def spl (s t : Nat) (r : Rl) (m : Nat) : List Ins := (List.range (m - s)).map fun j => splitAt s t r (s + j)
theorem spl_end (s t : Nat) (r : Rl) : spl s t r (t + 1) = splits s t r := rfl
theorem spl_start (s t : Nat) (r : Rl) : spl s t r s = [] := by simp [spl]
theorem spl_succ {s t m : Nat} {r : Rl} (h : s ≤ m) : spl s t r (m + 1) = spl s t r m ++ [splitAt s t r m] := by
  unfold spl
  rw [show m + 1 - s = (m - s) + 1 by omega, List.range_succ, List.map_append]
  simp only [List.map_cons, List.map_nil]
  rw [show s + (m - s) = m by omega]
theorem spl_cut {s t : Nat} {r : Rl} : ∀ d m : Nat, s ≤ m → m + d = t + 1 → ∃ l, splits s t r = spl s t r m ++ l ∧ (0 < d → ∃ l', l = splitAt s t r m :: l')
  | 0, m, h, e => ⟨[], by rw [← spl_end, ← e]; simp, fun h => absurd h (by omega)⟩
  | d + 1, m, h, e => by
    obtain ⟨l, h1, _⟩ := spl_cut (s := s) (t := t) (r := r) d (m + 1) (by omega) (by omega)
    refine ⟨splitAt s t r m :: l, ?_, fun _ => ⟨l, rfl⟩⟩
    rw [h1, spl_succ h, List.append_assoc]
    rfl
theorem insts_bin {L : List Ar} {s t : Nat} {r : Rl} (hk : r.k = 4) : insts L s t r = splits s t r := by
  unfold insts
  rw [hk]
  rfl

set_option maxRecDepth 100000 in
set_option maxHeartbeats 4000000 in
theorem ins_binary (w : World) (r : Rl) (F : Nat → Prop) (ok : a.Ok) (hk : r.k = 4) (hcb : Cbk a (insts a.L a.s a.t r) fid caps I Fin) (hI : I [] F w) :
    Calls Tryd.prog 45 #[.pointer (some ⟨a.sp, 0, none⟩), r.val, .func (.func fid) #[] caps] w (InsPost a (insts a.L a.s a.t r) I Fin F w) := by
  rw [insts_bin hk] at hcb ⊢
  obtain ⟨rk, rh, ra, rb, rp, ro⟩ := r
  simp only at hk
  subst hk
  simp only [Rl.val]
  obtain ⟨w1, hw1⟩ : ∃ w1, w.alloc (.cells #[.int .i64 4, .int .i64 rh, .int .i64 ra, .int .i64 rb, .int .i64 rp, .int .i64 ro] 65) = w1 := ⟨_, rfl⟩
  have hb1 : Below w.heap.size w w1 := by rw [← hw1]; exact (Below.refl _ _).alloc (Nat.le_refl _) _
  have K1 : Blk w1 w.heap.size 65 #[.int .i64 4, .int .i64 rh, .int .i64 ra, .int .i64 rb, .int .i64 rp, .int .i64 ro] := by rw [← hw1]; exact Blk.new' w _ _ rfl
  have hI1 := hcb.below hI hb1
  have k0 := K1.cell 0
  simp at k0
  obtain ⟨ss, hss⟩ : ∃ ss, a.s = ss := ⟨_, rfl⟩
  obtain ⟨tt, htt⟩ : ∃ tt, a.t = tt := ⟨_, rfl⟩
  have hle := ok.st
  have hS1 := ok.S1
  have htS := ok.tS
  have HST := Lib.hid (And.intro hss htt)
  rw [hss, htt] at hcb ⊢
  rw [hss, htt] at hle
  rw [htt] at htS
  obtain ⟨bx, hbx⟩ : ∃ bx, w.heap.size = bx := ⟨_, rfl⟩
  rw [hbx] at k0 K1
  have hlt1 := K1.lt
  obtain ⟨r, hr⟩ : ∃ r : Rl, r = ⟨4, rh, ra, rb, rp, ro⟩ := ⟨_, rfl⟩
  rw [← hr] at hcb ⊢
  have hrp : r.p = rp := by rw [hr]
  have hra : r.a = ra := by rw [hr]
  have hrb : r.b = rb := by rw [hr]
  have HRR := Lib.hid (And.intro hrp (And.intro hra hrb))
  have HFX : Hid (¬ F bx ∧ bx ≠ a.bb ∧ bx ≠ a.fb ∧ bx ≠ a.hb) := by
    have hbl := hcb.bl hI
    exact ⟨fun hf => by have := hcb.lt hI _ hf; omega, by omega, by omega, by omega⟩
  have HCB := Lib.hid hcb
  have HW1 := Lib.hid hw1
  have HI1 := Lib.hid hI1
  have HK1 := Lib.hid K1
  have HB1 := Lib.hid hb1
  have c10 := (hcb.rd hI1).kS.cell 10
  simp [SP.cells, hss] at c10
  clear hcb hI hI1 hw1 hb1 K1 hss htt ok hr hrp hra hrb
  go_enter Tryd.func45, Tryd.ntmps45
  go_upto_region 1 with fail
  rw [HW1.out]
  go_wp2_with fail
  clear c10 k0 hbx
  have HI0 : Hid (I (spl ss tt r ss) F w1) := by rw [spl_start]; exact HI1
  clear HI1
  go_loopw [9] (fun x wr => ∃ (m : Nat) (G : Nat → Prop), ss ≤ m ∧ m ≤ tt + 1 ∧ x = .int .i64 m ∧ Hid (I (spl ss tt r m) G wr) ∧ Hid (Blk wr bx 65 #[.int .i64 4, .int .i64 rh, .int .i64 ra, .int .i64 rb, .int .i64 rp, .int .i64 ro]) ∧ Hid (Stp a w1 F wr G)) (fun x _ => tt + 1 - (intOf x).toNat)
  case atStart => exact ⟨ss, F, Nat.le_refl _, by omega, rfl, HI0, HK1, Lib.hid (Stp.refl _ _ _)⟩
  case round =>
    obtain ⟨m, G, hm1, hm2, rfl, HIR, HKR, HSR⟩ := hrel
    clear HI0 HK1
    have c11 := (HCB.out.rd HIR.out).kS.cell 11
    simp [SP.cells] at c11
    rw [HST.out.2] at c11
    by_cases hmt : m ≤ tt
    case neg =>
      have hd : decide (m ≤ tt) = false := by simp; omega
      obtain rfl : m = tt + 1 := by omega
      have HF : Hid (InsPost a (splits ss tt r) I Fin F w (.returned (.tuple #[])) wr) :=
        ⟨_, rfl, G, (Stp.of_below HB1.out).trans HSR.out, .inl HIR.out⟩
      go_wp2_with fail
      go_end0
      exact HF.out
    case pos =>
      have hd : decide (m ≤ tt) = true := by simp; omega
      obtain ⟨rest, hsp, hsp2⟩ := spl_cut (s := ss) (t := tt) (r := r) (tt + 1 - m) m hm1 (by omega)
      obtain ⟨rest', hrest⟩ := hsp2 (by omega)
      rw [hrest] at hsp
      have hba : Below wr.heap.size wr ((wr.alloc (.cells #[.int .i64 ra, .int .i64 (ss : Nat), .int .i64 (m : Nat), .int .i64 rb, .int .i64 (m : Nat), .int .i64 (tt : Nat)] 61)).drew) := ((Below.refl _ _).alloc (Nat.le_refl _) _).drew
      have hI2 := HCB.out.below HIR.out hba
      have hus : (splitAt ss tt r m).us = [⟨ra, ss, m⟩, ⟨rb, m, tt⟩] := by unfold splitAt; rw [HRR.out.2.1, HRR.out.2.2]
      have hC := HCB.out.call (spl ss tt r m) (splitAt ss tt r m) rest' G ((wr.alloc (.cells #[.int .i64 ra, .int .i64 (ss : Nat), .int .i64 (m : Nat), .int .i64 rb, .int .i64 (m : Nat), .int .i64 (tt : Nat)] 61)).drew) (some ⟨wr.heap.size, 0, none⟩) 2 hsp hI2
        (by rw [hus]; exact (Reads.of_blk (Blk.new' wr 61 #[.int .i64 ra, .int .i64 (ss : Nat), .int .i64 (m : Nat), .int .i64 rb, .int .i64 (m : Nat), .int .i64 (tt : Nat)] rfl) (by show wr.heap.size < (wr.alloc _).heap.size; simp) rfl rfl).drew)
      have hpr : (splitAt ss tt r m).pr = rp := HRR.out.1
      rw [hus, hpr] at hC
      change Calls Tryd.prog fid (#[.int .i64 (m : Nat), .int .i64 rp, .slice (some ⟨wr.heap.size, 0, none⟩) 2 2] ++ caps) _ _ at hC
      have HC := Lib.hid hC
      have hKG : ¬ G bx := fun hg => by
        rcases HSR.out.new bx hg with h | h
        · exact HFX.out.1 h
        · omega
      have hS : ∀ w9, Below wr.heap.size wr w9 → w9.cell? ⟨a.sp, 10, none⟩ = some (.int .i64 (ss : Nat)) ∧ w9.cell? ⟨a.sp, 11, none⟩ = some (.int .i64 (tt : Nat)) ∧ w9.cell? ⟨bx, 2, none⟩ = some (.int .i64 ra) ∧ w9.cell? ⟨bx, 3, none⟩ = some (.int .i64 rb) ∧ w9.cell? ⟨bx, 4, none⟩ = some (.int .i64 rp) := fun w9 h9 => by
        have h1 := (HCB.out.rd (HCB.out.below HIR.out h9)).kS.cell 10
        have h2 := (HCB.out.rd (HCB.out.below HIR.out h9)).kS.cell 11
        simp [SP.cells, HST.out.1, HST.out.2] at h1 h2
        exact ⟨h1, h2, (HKR.out.below h9 HKR.out.lt).cell 2, (HKR.out.below h9 HKR.out.lt).cell 3, (HKR.out.below h9 HKR.out.lt).cell 4⟩
      have HS0 := Lib.hid (hS wr.drew (Below.refl _ _).drew)
      have HS1 := Lib.hid (hS _ hba)
      have HSS : Hid (∀ w9 G9, Stp a ((wr.alloc (.cells #[.int .i64 ra, .int .i64 (ss : Nat), .int .i64 (m : Nat), .int .i64 rb, .int .i64 (m : Nat), .int .i64 (tt : Nat)] 61)).drew) G w9 G9 → (w9.cell? ⟨a.sp, 10, none⟩ = some (.int .i64 (ss : Nat)) ∧ w9.cell? ⟨a.sp, 11, none⟩ = some (.int .i64 (tt : Nat)) ∧ w9.cell? ⟨bx, 2, none⟩ = some (.int .i64 ra) ∧ w9.cell? ⟨bx, 3, none⟩ = some (.int .i64 rb) ∧ w9.cell? ⟨bx, 4, none⟩ = some (.int .i64 rp)) ∧ Blk w9 bx 65 #[.int .i64 4, .int .i64 rh, .int .i64 ra, .int .i64 rb, .int .i64 rp, .int .i64 ro] ∧ Stp a w1 F w9 G9) := fun w9 G9 h9 => by
        obtain ⟨n1, n2⟩ := HCB.out.ns HIR.out
        have h1 := ((HCB.out.rd hI2).kS.stp h9 n1 n2).cell 10
        have h2 := ((HCB.out.rd hI2).kS.stp h9 n1 n2).cell 11
        simp [SP.cells, HST.out.1, HST.out.2] at h1 h2
        have hK := (HKR.out.below hba HKR.out.lt).stp h9 hKG HFX.out.2
        exact ⟨⟨h1, h2, hK.cell 2, hK.cell 3, hK.cell 4⟩, hK, (HSR.out.next hba).trans h9⟩
      clear hC hS hba hI2 hus hpr hsp hrest hsp2 hKG HKR HSR HIR
      go_wp2_with fail
      clear c11
      go_region_held3 (fun w' => w'.cell? ⟨a.sp, 10, none⟩ = some (.int .i64 (ss : Nat)) ∧ w'.cell? ⟨a.sp, 11, none⟩ = some (.int .i64 (tt : Nat)) ∧ w'.cell? ⟨bx, 2, none⟩ = some (.int .i64 ra) ∧ w'.cell? ⟨bx, 3, none⟩ = some (.int .i64 rb) ∧ w'.cell? ⟨bx, 4, none⟩ = some (.int .i64 rp))
        (first | with_reducible exact HS0.out | with_reducible exact HS1.out | with_reducible exact HS2.out)
        (first | (rw [HCB.out.enters, Oper.upon_enter]; (with_reducible refine HC.out.mono ?_); rintro e w3 ⟨b, G3, rfl, hs3, h1, h2⟩; have HS2 := Lib.hid (HSS.out w3 G3 hs3).1; have HKK := Lib.hid (HSS.out w3 G3 hs3).2; have H1 := Lib.hid h1; have H2 := Lib.hid h2; clear hs3 h1 h2))
      all_goals
        cases b
        case false =>
          have HF : Hid (InsPost a (splits ss tt r) I Fin F w (.returned (.tuple #[])) w3) :=
            ⟨_, rfl, G3, (Stp.of_below HB1.out).trans HKK.out.2, .inr (H2.out rfl)⟩
          go_wp2_with fail
          go_end0
          exact HF.out
        case true =>
          have HIN : Hid (I (spl ss tt r (m + 1)) G3 w3) := by rw [spl_succ hm1]; exact H1.out rfl
          go_wp2_with fail
          go_roundw
          case rel => exact ⟨m + 1, G3, by omega, by omega, by go_num, HIN, HKK.out.1, HKK.out.2⟩
          case measure => simp [intOf]; omega
end
end Go.Proofs.YthakcefgbggkcaaDoor
