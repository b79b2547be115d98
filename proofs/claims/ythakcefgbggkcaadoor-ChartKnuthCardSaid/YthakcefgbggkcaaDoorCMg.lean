/- The boundary. -/
import Derived.Test.YthakcefgbggkcaaDoorCMf
namespace Go.Proofs.YthakcefgbggkcaaDoor
open Go.RowKit

theorem list_cut {α : Type} {l : List α} {i : Nat} {x : α} (h : l[i]? = some x) : l = l.take i ++ x :: l.drop (i + 1) := by
  have hi := (List.getElem?_eq_some_iff.1 h).1
  have e : l.drop i = x :: l.drop (i + 1) := by
    rw [List.drop_eq_getElem_cons hi]
    rw [List.getElem?_eq_getElem hi] at h
    injection h with h
    rw [h]
  rw [← e, List.take_append_drop]
theorem take_snoc' {α : Type} {l : List α} {i : Nat} {x : α} (h : l[i]? = some x) : l.take (i + 1) = l.take i ++ [x] := by
  rw [List.take_add_one, h]
  simp
section
variable {a : SP} {fid : Nat} {caps : Array Value} {I : List Ins → (Nat → Prop) → World → Prop}
set_option maxRecDepth 100000 in
set_option maxHeartbeats 4000000 in
theorem bnd_other (w : World) (r : Rl) (F : Nat → Prop) (ok : a.Ok) (hr : r.Ok a.N) (hk : r.k ≠ 4) (hcb : Cbk a (bnd a.L a.s a.t r) fid caps I (fun _ _ => False)) (hI : I [] F w) :
    Calls Tryd.prog 62 #[.pointer (some ⟨a.sp, 0, none⟩), r.val, .func (.func fid) #[] caps] w (InsPost a (bnd a.L a.s a.t r) I (fun _ _ => False) F w) := by
  have hbe : bnd a.L a.s a.t r = insts a.L a.s a.t r := if_neg hk
  rw [hbe] at hcb ⊢
  have hba : Below w.heap.size w (w.alloc (.cells #[.int .i64 r.k, .int .i64 r.hd, .int .i64 r.a, .int .i64 r.b, .int .i64 r.p, .int .i64 r.o] 65)) := (Below.refl _ _).alloc (Nat.le_refl _) _
  have hI1 := hcb.below hI hba
  have hins := ins_any _ r F ok hr hcb hI1
  have HINS := Lib.hid hins
  have HBA := Lib.hid hba
  have hd : (r.k == 4) = false := by simpa using hk
  have hd2 : (r.k != 4) = true := by simpa using hk
  simp only [Rl.val] at HINS ⊢
  clear hcb hI hI1 hins hba hk hr hbe
  go_enter Tryd.func62, Tryd.ntmps62
  go_wp2_with fail
  refine HINS.out.mono ?_
  rintro e w1 ⟨v, rfl, G, hs, hf⟩
  have HF : Hid (InsPost a (insts a.L a.s a.t r) I (fun _ _ => False) F w (.returned (.tuple #[])) w1) := ⟨_, rfl, G, (Stp.of_below HBA.out).trans hs, hf⟩
  clear hs hf
  go_wp2_with fail
  go_end0
  exact HF.out

set_option maxRecDepth 100000 in
set_option maxHeartbeats 4000000 in
theorem bnd_binary (w : World) (r : Rl) (F : Nat → Prop) (_ok : a.Ok) (hk : r.k = 4) (hcb : Cbk a (bnd a.L a.s a.t r) fid caps I (fun _ _ => False)) (hI : I [] F w) :
    Calls Tryd.prog 62 #[.pointer (some ⟨a.sp, 0, none⟩), r.val, .func (.func fid) #[] caps] w (InsPost a (bnd a.L a.s a.t r) I (fun _ _ => False) F w) := by
  have hbe : bnd a.L a.s a.t r = [splitAt a.s a.t r a.s, splitAt a.s a.t r a.t] := if_pos hk
  rw [hbe] at hcb ⊢
  obtain ⟨rk, rh, ra, rb, rp, ro⟩ := r
  simp only at hk
  subst hk
  simp only [Rl.val]
  obtain ⟨w1, hw1⟩ : ∃ w1, w.alloc (.cells #[.int .i64 4, .int .i64 rh, .int .i64 ra, .int .i64 rb, .int .i64 rp, .int .i64 ro] 65) = w1 := ⟨_, rfl⟩
  have hb1 : Below w.heap.size w w1 := by rw [← hw1]; exact (Below.refl _ _).alloc (Nat.le_refl _) _
  have K1 : Blk w1 w.heap.size 65 #[.int .i64 4, .int .i64 rh, .int .i64 ra, .int .i64 rb, .int .i64 rp, .int .i64 ro] := by rw [← hw1]; exact Blk.new' w _ _ rfl
  have hI1 := hcb.below hI hb1
  have k0 := K1.cell 0
  simp at k0
  obtain ⟨ss, hss⟩ : ∃ ss, a.s = ss := ⟨_, rfl⟩
  obtain ⟨tt, htt⟩ : ∃ tt, a.t = tt := ⟨_, rfl⟩
  have HST := Lib.hid (And.intro hss htt)
  rw [hss, htt] at hcb ⊢
  obtain ⟨bx, hbx⟩ : ∃ bx, w.heap.size = bx := ⟨_, rfl⟩
  rw [hbx] at k0 K1
  have hlt1 := K1.lt
  obtain ⟨r, hr⟩ : ∃ r : Rl, r = ⟨4, rh, ra, rb, rp, ro⟩ := ⟨_, rfl⟩
  rw [← hr] at hcb ⊢
  have hrp : r.p = rp := by rw [hr]
  have hra : r.a = ra := by rw [hr]
  have hrb : r.b = rb := by rw [hr]
  have HRR := Lib.hid (And.intro hrp (And.intro hra hrb))
  obtain ⟨bl, hbl⟩ : ∃ bl : List Ins, [splitAt ss tt r ss, splitAt ss tt r tt] = bl := ⟨_, rfl⟩
  rw [hbl] at hcb ⊢
  have hbl2 : ∀ i m : Nat, ([ss, tt] : List Nat)[i]? = some m → bl[i]? = some (splitAt ss tt r m) := fun i m h => by
    rw [← hbl]
    rcases i with _ | _ | i
    · simp at h; subst h; rfl
    · simp at h; subst h; rfl
    · simp at h
  have HBL := Lib.hid hbl2
  have hbll : bl.length = 2 := by rw [← hbl]; rfl
  have HBLL := Lib.hid hbll
  -- the row of the two states
  have hbw : Below w1.heap.size w1 ((w1.alloc (.cells #[.int .i64 (ss : Nat), .int .i64 (tt : Nat)] 3)).drew) := ((Below.refl _ _).alloc (Nat.le_refl _) _).drew
  have KR : Blk ((w1.alloc (.cells #[.int .i64 (ss : Nat), .int .i64 (tt : Nat)] 3)).drew) w1.heap.size 3 #[.int .i64 (ss : Nat), .int .i64 (tt : Nat)] := Blk.new' w1 _ _ rfl
  obtain ⟨br, hbr⟩ : ∃ br, w1.heap.size = br := ⟨_, rfl⟩
  have HFX : Hid ((¬ F bx ∧ bx ≠ a.bb ∧ bx ≠ a.fb ∧ bx ≠ a.hb) ∧ (¬ F br ∧ br ≠ a.bb ∧ br ≠ a.fb ∧ br ≠ a.hb) ∧ br < ((w1.alloc (.cells #[.int .i64 (ss : Nat), .int .i64 (tt : Nat)] 3)).drew).heap.size) := by
    have hb := hcb.bl hI
    have hsz := hb1.size
    refine ⟨⟨fun hf => by have := hcb.lt hI _ hf; omega, by omega, by omega, by omega⟩, ⟨fun hf => by have := hcb.lt hI _ hf; omega, by omega, by omega, by omega⟩, ?_⟩
    have := KR.lt
    rw [hbr] at this
    exact this
  have HCB := Lib.hid hcb
  have HW1 := Lib.hid hw1
  have HI2 := Lib.hid (hcb.below hI1 hbw)
  have HK2 := Lib.hid (K1.below hbw hlt1)
  have HB2 : Hid (Below w.heap.size w ((w1.alloc (.cells #[.int .i64 (ss : Nat), .int .i64 (tt : Nat)] 3)).drew)) := hb1.trans (hbw.mono hb1.size)
  rw [hbr] at KR
  have HKR := Lib.hid KR
  have hS0 : w1.drew.cell? ⟨a.sp, 10, none⟩ = some (.int .i64 (ss : Nat)) ∧ w1.drew.cell? ⟨a.sp, 11, none⟩ = some (.int .i64 (tt : Nat)) := by
    have h1 := (hcb.rd hI1).kS.cell 10
    have h2 := (hcb.rd hI1).kS.cell 11
    simp [SP.cells, hss, htt] at h1 h2
    exact ⟨h1, h2⟩
  have hS1 : ((w1.alloc (.cells #[.int .i64 (ss : Nat), .int .i64 (tt : Nat)] 3)).drew).cell? ⟨a.sp, 10, none⟩ = some (.int .i64 (ss : Nat)) ∧ ((w1.alloc (.cells #[.int .i64 (ss : Nat), .int .i64 (tt : Nat)] 3)).drew).cell? ⟨a.sp, 11, none⟩ = some (.int .i64 (tt : Nat)) := by
    have h1 := (hcb.rd (hcb.below hI1 hbw)).kS.cell 10
    have h2 := (hcb.rd (hcb.below hI1 hbw)).kS.cell 11
    simp [SP.cells, hss, htt] at h1 h2
    exact ⟨h1, h2⟩
  have HS0 := Lib.hid hS0
  have HS1 := Lib.hid hS1
  have HBR := Lib.hid hbr
  clear hcb hI hI1 hw1 hb1 K1 hss htt _ok hr hrp hra hrb hbl hbl2 hbll hbw KR hS0 hS1 hbe
  go_enter Tryd.func62, Tryd.ntmps62
  go_upto_region 1 with fail
  rw [HW1.out]
  go_upto_region 3 with fail
  clear k0 hbx
  go_region_held3 (fun w' => w'.cell? ⟨a.sp, 10, none⟩ = some (.int .i64 (ss : Nat)) ∧ w'.cell? ⟨a.sp, 11, none⟩ = some (.int .i64 (tt : Nat)))
    (first | with_reducible exact HS0.out | with_reducible exact HS1.out) (fail)
  generalize (w1.alloc (.cells #[.int .i64 (ss : Nat), .int .i64 (tt : Nat)] 3)).drew = w2 at HI2 HK2 HB2 HKR HFX ⊢
  clear HS0 HS1 HW1
  clear hbr
  have HI0 : Hid (I (bl.take 0) F w2) := by rw [List.take_zero]; exact HI2
  have HLB : Hid (bx < w2.heap.size) := HK2.out.lt
  clear HI2
  go_wp2_with fail
  go_loopw [25] (fun x wr => ∃ (i : Nat) (G : Nat → Prop), i ≤ 2 ∧ x = .int .i64 i ∧ Hid (I (bl.take i) G wr) ∧ Hid (Blk wr bx 65 #[.int .i64 4, .int .i64 rh, .int .i64 ra, .int .i64 rb, .int .i64 rp, .int .i64 ro]) ∧ Hid (Blk wr br 3 #[.int .i64 (ss : Nat), .int .i64 (tt : Nat)]) ∧ Hid (Stp a w2 F wr G)) (fun x _ => 2 - (intOf x).toNat)
  case atStart => exact ⟨0, F, by omega, rfl, HI0, HK2, HKR, Lib.hid (Stp.refl _ _ _)⟩
  case round =>
    obtain ⟨i, G, hi2, rfl, HIR, HKX, HKY, HSR⟩ := hrel
    clear HI0 HK2 HKR
    by_cases hlt : i < 2
    case neg =>
      have hd : decide (i < 2) = false := by simp; omega
      obtain rfl : i = 2 := by omega
      have HF : Hid (InsPost a bl I (fun _ _ => False) F w (.returned (.tuple #[])) wr) :=
        ⟨_, rfl, G, (Stp.of_below HB2.out).trans HSR.out, .inl (by have := HIR.out; rw [List.take_of_length_le (by rw [HBLL.out]; exact Nat.le_refl _)] at this; exact this)⟩
      go_wp2_with fail
      go_end0
      exact HF.out
    case pos =>
      have hd : decide (i < 2) = true := by simp; omega
      have hd' : decide ((i : Int) < 2) = true := by simp; omega
      obtain ⟨m, hm⟩ : ∃ m, ([ss, tt] : List Nat)[i]? = some m := ⟨_, List.getElem?_eq_getElem (by simpa using hlt)⟩
      have hbi := HBL.out i m hm
      have hcut := list_cut hbi
      have hsu := take_snoc' hbi
      have q0 : wr.cell? ⟨br, i, none⟩ = some (.int .i64 (m : Nat)) := by
        rw [HKY.out.cell]
        rcases i with _ | _ | i
        · simp at hm; subst hm; rfl
        · simp at hm; subst hm; rfl
        · omega
      have hba : Below wr.heap.size wr ((wr.alloc (.cells #[.int .i64 ra, .int .i64 (ss : Nat), .int .i64 (m : Nat), .int .i64 rb, .int .i64 (m : Nat), .int .i64 (tt : Nat)] 61)).drew) := ((Below.refl _ _).alloc (Nat.le_refl _) _).drew
      have hI3 := HCB.out.below HIR.out hba
      have hus : (splitAt ss tt r m).us = [⟨ra, ss, m⟩, ⟨rb, m, tt⟩] := by unfold splitAt; rw [HRR.out.2.1, HRR.out.2.2]
      have hC := HCB.out.call (bl.take i) (splitAt ss tt r m) (bl.drop (i + 1)) G ((wr.alloc (.cells #[.int .i64 ra, .int .i64 (ss : Nat), .int .i64 (m : Nat), .int .i64 rb, .int .i64 (m : Nat), .int .i64 (tt : Nat)] 61)).drew) (some ⟨wr.heap.size, 0, none⟩) 2 hcut hI3
        (by rw [hus]; exact (Reads.of_blk (Blk.new' wr 61 #[.int .i64 ra, .int .i64 (ss : Nat), .int .i64 (m : Nat), .int .i64 rb, .int .i64 (m : Nat), .int .i64 (tt : Nat)] rfl) (by show wr.heap.size < (wr.alloc _).heap.size; simp) rfl rfl).drew)
      have hpr : (splitAt ss tt r m).pr = rp := HRR.out.1
      rw [hus, hpr] at hC
      change Calls Tryd.prog fid (#[.int .i64 (m : Nat), .int .i64 rp, .slice (some ⟨wr.heap.size, 0, none⟩) 2 2] ++ caps) _ _ at hC
      have HC := Lib.hid hC
      have HSU := Lib.hid hsu
      have hKG : ¬ G bx ∧ ¬ G br := ⟨fun hg => by
        rcases HSR.out.new bx hg with h | h
        · exact HFX.out.1.1 h
        · have := HLB.out; omega, fun hg => by
        rcases HSR.out.new br hg with h | h
        · exact HFX.out.2.1.1 h
        · have := HFX.out.2.2; omega⟩
      have hS : ∀ w9, Below wr.heap.size wr w9 → w9.cell? ⟨a.sp, 10, none⟩ = some (.int .i64 (ss : Nat)) ∧ w9.cell? ⟨a.sp, 11, none⟩ = some (.int .i64 (tt : Nat)) ∧ w9.cell? ⟨bx, 2, none⟩ = some (.int .i64 ra) ∧ w9.cell? ⟨bx, 3, none⟩ = some (.int .i64 rb) ∧ w9.cell? ⟨bx, 4, none⟩ = some (.int .i64 rp) := fun w9 h9 => by
        have h1 := (HCB.out.rd (HCB.out.below HIR.out h9)).kS.cell 10
        have h2 := (HCB.out.rd (HCB.out.below HIR.out h9)).kS.cell 11
        simp [SP.cells, HST.out.1, HST.out.2] at h1 h2
        exact ⟨h1, h2, (HKX.out.below h9 HKX.out.lt).cell 2, (HKX.out.below h9 HKX.out.lt).cell 3, (HKX.out.below h9 HKX.out.lt).cell 4⟩
      have HS0 := Lib.hid (hS wr.drew (Below.refl _ _).drew)
      have HS1 := Lib.hid (hS _ hba)
      have HSS : Hid (∀ w9 G9, Stp a ((wr.alloc (.cells #[.int .i64 ra, .int .i64 (ss : Nat), .int .i64 (m : Nat), .int .i64 rb, .int .i64 (m : Nat), .int .i64 (tt : Nat)] 61)).drew) G w9 G9 → (w9.cell? ⟨a.sp, 10, none⟩ = some (.int .i64 (ss : Nat)) ∧ w9.cell? ⟨a.sp, 11, none⟩ = some (.int .i64 (tt : Nat)) ∧ w9.cell? ⟨bx, 2, none⟩ = some (.int .i64 ra) ∧ w9.cell? ⟨bx, 3, none⟩ = some (.int .i64 rb) ∧ w9.cell? ⟨bx, 4, none⟩ = some (.int .i64 rp)) ∧ Blk w9 bx 65 #[.int .i64 4, .int .i64 rh, .int .i64 ra, .int .i64 rb, .int .i64 rp, .int .i64 ro] ∧ Blk w9 br 3 #[.int .i64 (ss : Nat), .int .i64 (tt : Nat)] ∧ Stp a w2 F w9 G9) := fun w9 G9 h9 => by
        obtain ⟨n1, n2⟩ := HCB.out.ns HIR.out
        have h1 := ((HCB.out.rd hI3).kS.stp h9 n1 n2).cell 10
        have h2 := ((HCB.out.rd hI3).kS.stp h9 n1 n2).cell 11
        simp [SP.cells, HST.out.1, HST.out.2] at h1 h2
        have hK := (HKX.out.below hba HKX.out.lt).stp h9 hKG.1 HFX.out.1.2
        have hY := (HKY.out.below hba HKY.out.lt).stp h9 hKG.2 HFX.out.2.1.2
        exact ⟨⟨h1, h2, hK.cell 2, hK.cell 3, hK.cell 4⟩, hK, hY, (HSR.out.next hba).trans h9⟩
      clear hC hS hba hI3 hus hpr hcut hsu hbi hm hKG HKX HSR HIR HKY
      go_wp2_with fail
      clear q0
      go_region_held3 (fun w' => w'.cell? ⟨a.sp, 10, none⟩ = some (.int .i64 (ss : Nat)) ∧ w'.cell? ⟨a.sp, 11, none⟩ = some (.int .i64 (tt : Nat)) ∧ w'.cell? ⟨bx, 2, none⟩ = some (.int .i64 ra) ∧ w'.cell? ⟨bx, 3, none⟩ = some (.int .i64 rb) ∧ w'.cell? ⟨bx, 4, none⟩ = some (.int .i64 rp))
        (first | with_reducible exact HS0.out | with_reducible exact HS1.out | with_reducible exact HS2.out)
        (first | (rw [HCB.out.enters, Oper.upon_enter]; (with_reducible refine HC.out.mono ?_); rintro e w3 ⟨b, G3, rfl, hs3, h1, h2⟩; have HS2 := Lib.hid (HSS.out w3 G3 hs3).1; have HKK := Lib.hid (HSS.out w3 G3 hs3).2; have H1 := Lib.hid h1; have H2 := Lib.hid h2; clear hs3 h1 h2))
      all_goals
        have HIN : Hid (I (bl.take (i + 1)) G3 w3) := by
          rw [HSU.out]
          cases b with
          | true => exact H1.out rfl
          | false => exact (H2.out rfl).elim
        go_wp2_with fail
        go_roundw
        case rel => exact ⟨i + 1, G3, by omega, by go_num, HIN, HKK.out.1, HKK.out.2.1, HKK.out.2.2⟩
        case measure => simp [intOf]; omega
theorem bnd_any (w : World) (r : Rl) (F : Nat → Prop) (ok : a.Ok) (hr : r.Ok a.N) (hcb : Cbk a (bnd a.L a.s a.t r) fid caps I (fun _ _ => False)) (hI : I [] F w) :
    Calls Tryd.prog 62 #[.pointer (some ⟨a.sp, 0, none⟩), r.val, .func (.func fid) #[] caps] w (InsPost a (bnd a.L a.s a.t r) I (fun _ _ => False) F w) := by
  by_cases hk : r.k = 4
  · exact bnd_binary w r F ok hk hcb hI
  · exact bnd_other w r F ok hr hk hcb hI
end
end Go.Proofs.YthakcefgbggkcaaDoor
