/- Instances: unary. -/
import Derived.Test.YthakcefgbggkcaaDoorCMe
namespace Go.Proofs.YthakcefgbggkcaaDoor
open Go.RowKit

section
variable {a : SP} {fid : Nat} {caps : Array Value} {I : List Ins → (Nat → Prop) → World → Prop} {Fin : (Nat → Prop) → World → Prop}
set_option maxRecDepth 100000 in
set_option maxHeartbeats 2000000 in
theorem ins_unary (w : World) (r : Rl) (F : Nat → Prop) (_ok : a.Ok) (hk : r.k = 3) (hcb : Cbk a (insts a.L a.s a.t r) fid caps I Fin) (hI : I [] F w) :
    Calls Tryd.prog 45 #[.pointer (some ⟨a.sp, 0, none⟩), r.val, .func (.func fid) #[] caps] w (InsPost a (insts a.L a.s a.t r) I Fin F w) := by
  obtain ⟨rk, rh, ra, rb, rp, ro⟩ := r
  simp only at hk
  subst hk
  simp only [Rl.val]
  obtain ⟨w1, hw1⟩ : ∃ w1, w.alloc (.cells #[.int .i64 3, .int .i64 rh, .int .i64 ra, .int .i64 rb, .int .i64 rp, .int .i64 ro] 65) = w1 := ⟨_, rfl⟩
  have hb1 : Below w.heap.size w w1 := by rw [← hw1]; exact (Below.refl _ _).alloc (Nat.le_refl _) _
  have K1 : Blk w1 w.heap.size 65 #[.int .i64 3, .int .i64 rh, .int .i64 ra, .int .i64 rb, .int .i64 rp, .int .i64 ro] := by rw [← hw1]; exact Blk.new' w _ _ rfl
  have hI1 := hcb.below hI hb1
  have k0 := K1.cell 0
  simp at k0
  obtain ⟨ss, hss⟩ : ∃ ss, a.s = ss := ⟨_, rfl⟩
  obtain ⟨tt, htt⟩ : ∃ tt, a.t = tt := ⟨_, rfl⟩
  have HST := Lib.hid (And.intro hss htt)
  obtain ⟨bx, hbx⟩ : ∃ bx, w.heap.size = bx := ⟨_, rfl⟩
  rw [hbx] at k0 K1
  have hlt1 := K1.lt
  have hba : Below w1.heap.size w1 ((w1.alloc (.cells #[.int .i64 ra, .int .i64 ss, .int .i64 tt] 61)).drew) := ((Below.refl _ _).alloc (Nat.le_refl _) _).drew
  have hl : insts a.L a.s a.t ⟨3, rh, ra, rb, rp, ro⟩ = [⟨ss, rp, [⟨ra, ss, tt⟩]⟩] := by
    unfold insts
    rw [hss, htt]
    simp
  have hI2 := hcb.below hI1 hba
  have hC := hcb.call [] ⟨ss, rp, [⟨ra, ss, tt⟩]⟩ [] F ((w1.alloc (.cells #[.int .i64 ra, .int .i64 ss, .int .i64 tt] 61)).drew) (some ⟨w1.heap.size, 0, none⟩) 1 hl hI2 ((Reads.of_blk (Blk.new' w1 61 #[.int .i64 ra, .int .i64 ss, .int .i64 tt] rfl) (by show w1.heap.size < (w1.alloc _).heap.size; simp) rfl rfl).drew)
  change Calls Tryd.prog fid (#[.int .i64 (ss : Nat), .int .i64 rp, .slice (some ⟨w1.heap.size, 0, none⟩) 1 1] ++ caps) _ _ at hC
  have HC := Lib.hid hC
  have HCB := Lib.hid hcb
  have HL := Lib.hid hl
  have HS : ∀ w9, Below w1.heap.size w1 w9 → w9.cell? ⟨a.sp, 10, none⟩ = some (.int .i64 ss) ∧ w9.cell? ⟨a.sp, 11, none⟩ = some (.int .i64 tt) ∧ w9.cell? ⟨bx, 2, none⟩ = some (.int .i64 ra) ∧ w9.cell? ⟨bx, 4, none⟩ = some (.int .i64 rp) := fun w9 h9 => by
    have h1 := (hcb.rd (hcb.below hI1 h9)).kS.cell 10
    have h2 := (hcb.rd (hcb.below hI1 h9)).kS.cell 11
    simp [SP.cells, hss, htt] at h1 h2
    exact ⟨h1, h2, (K1.below h9 hlt1).cell 2, (K1.below h9 hlt1).cell 4⟩
  have HS0 := Lib.hid (HS w1.drew (Below.refl _ _).drew)
  have HS1 := Lib.hid (HS _ hba)
  have HSS : Hid (∀ w9 G, Stp a ((w1.alloc (.cells #[.int .i64 ra, .int .i64 ss, .int .i64 tt] 61)).drew) F w9 G → w9.cell? ⟨a.sp, 10, none⟩ = some (.int .i64 ss) ∧ w9.cell? ⟨a.sp, 11, none⟩ = some (.int .i64 tt) ∧ w9.cell? ⟨bx, 2, none⟩ = some (.int .i64 ra) ∧ w9.cell? ⟨bx, 4, none⟩ = some (.int .i64 rp)) := fun w9 G h9 => by
    obtain ⟨n1, n2⟩ := hcb.ns hI
    have h1 := ((hcb.rd hI2).kS.stp h9 n1 n2).cell 10
    have h2 := ((hcb.rd hI2).kS.stp h9 n1 n2).cell 11
    simp [SP.cells, hss, htt] at h1 h2
    have hbl := hcb.bl hI
    have hK := (K1.below hba hlt1).stp h9 (fun hf => by have := hcb.lt hI _ hf; omega) ⟨by omega, by omega, by omega⟩
    exact ⟨h1, h2, hK.cell 2, hK.cell 4⟩
  have HFB : Hid (Stp a w F ((w1.alloc (.cells #[.int .i64 ra, .int .i64 ss, .int .i64 tt] 61)).drew) F) := Stp.of_below (hb1.trans (hba.mono hb1.size))
  have HW1 := Lib.hid hw1
  have HBX := Lib.hid hbx
  clear hcb hI hI1 hw1 hb1 K1 hss htt _ok hl hI2 hC HS hba hlt1
  go_enter Tryd.func45, Tryd.ntmps45
  go_upto_region 1 with fail
  rw [HW1.out]
  go_upto_region 12 with fail
  clear k0
  go_region_held3 (fun w' => w'.cell? ⟨a.sp, 10, none⟩ = some (.int .i64 ss) ∧ w'.cell? ⟨a.sp, 11, none⟩ = some (.int .i64 tt) ∧ w'.cell? ⟨bx, 2, none⟩ = some (.int .i64 ra) ∧ w'.cell? ⟨bx, 4, none⟩ = some (.int .i64 rp))
    (first | with_reducible exact HS0.out | with_reducible exact HS1.out | with_reducible exact HS2.out)
    (first | (rw [HCB.out.enters, Oper.upon_enter]; (with_reducible refine HC.out.mono ?_); rintro e w3 ⟨b, G, rfl, hs3, h1, h2⟩; have HF : Hid (InsPost a (insts a.L a.s a.t ⟨3, rh, ra, rb, rp, ro⟩) I Fin F w (.returned (.tuple #[])) w3) := ⟨_, rfl, G, HFB.out.trans hs3, by cases b with | true => exact .inl (by rw [HL.out]; exact h1 rfl) | false => exact .inr (h2 rfl)⟩; have HS2 := Lib.hid (HSS.out w3 G hs3); clear hs3 h1 h2))
  all_goals
    go_wp2_with fail
    go_end0
    exact HF.out
end
end Go.Proofs.YthakcefgbggkcaaDoor
