/- Instances: terminal. -/
import Derived.Test.YthakcefgbggkcaaDoorCMe
namespace Go.Proofs.YthakcefgbggkcaaDoor
open Go.RowKit

/-- The instance that arc number i gives. -/
def arcIn (L : List Ar) (s t : Nat) (r : Rl) (i : Nat) : Option Ins := match L[i]? with
  | some a => if a.fits s t r.a then some ⟨i, r.p + a.co, []⟩ else none
  | none => none
def arcsTo (L : List Ar) (s t : Nat) (r : Rl) (k : Nat) : List Ins := (List.range k).filterMap (arcIn L s t r)
theorem arcsTo_end (L : List Ar) (s t : Nat) (r : Rl) : arcsTo L s t r L.length = arcsOf L s t r := rfl
theorem arcsTo_succ (L : List Ar) (s t : Nat) (r : Rl) (k : Nat) : arcsTo L s t r (k + 1) = arcsTo L s t r k ++ (arcIn L s t r k).toList := by
  unfold arcsTo
  rw [List.range_succ, List.filterMap_append]
  congr 1
theorem arcsTo_same (L : List Ar) (s t : Nat) (r : Rl) (k : Nat) : ∀ d, (∀ i, k ≤ i → i < k + d → arcIn L s t r i = none) → arcsTo L s t r (k + d) = arcsTo L s t r k
  | 0, _ => rfl
  | d + 1, h => by
    rw [show k + (d + 1) = (k + d) + 1 by omega, arcsTo_succ, h (k + d) (by omega) (by omega), arcsTo_same L s t r k d fun i h1 h2 => h i h1 (by omega)]
    simp
theorem arcsTo_cut (L : List Ar) (s t : Nat) (r : Rl) (n : Nat) : ∀ d m : Nat, m + d = n → ∃ l, arcsTo L s t r n = arcsTo L s t r m ++ l ∧ (0 < d → ∃ l', l = (arcIn L s t r m).toList ++ l')
  | 0, m, e => ⟨[], by rw [← e]; simp, fun h => absurd h (by omega)⟩
  | d + 1, m, e => by
    obtain ⟨l, h1, _⟩ := arcsTo_cut L s t r n d (m + 1) (by omega)
    refine ⟨(arcIn L s t r m).toList ++ l, ?_, fun _ => ⟨l, rfl⟩⟩
    rw [h1, arcsTo_succ, List.append_assoc]
theorem arcIn_no {L : List Ar} {s t : Nat} {r : Rl} {i : Nat} (h : arAt L s t i = false) : arcIn L s t r i = none := by
  unfold arAt at h
  unfold arcIn
  cases ha : L[i]? with
  | none => rfl
  | some a =>
    rw [ha] at h
    simp only at h ⊢
    rw [if_neg]
    intro hf
    simp only [Ar.fits, Bool.and_eq_true, decide_eq_true_eq] at hf
    simp only [Ar.at_, Bool.and_eq_false_iff, decide_eq_false_iff_not] at h
    rcases h with h | h
    · exact h hf.1
    · exact h hf.2.1
theorem arcIn_tm {L : List Ar} {s t : Nat} {r : Rl} {i : Nat} {x : Ar} (h : arAt L s t i = true) (hx : L[i]? = some x) : arcIn L s t r i = if x.tm = r.a then some ⟨i, r.p + x.co, []⟩ else none := by
  unfold arAt at h
  unfold arcIn
  rw [hx] at h ⊢
  simp only [Ar.at_, Bool.and_eq_true, decide_eq_true_eq] at h
  simp only [Ar.fits, h.1, h.2, decide_true, Bool.true_and, decide_eq_true_eq]
theorem insts_term {L : List Ar} {s t : Nat} {r : Rl} (hk : r.k = 2) : insts L s t r = arcsOf L s t r := by
  unfold insts
  rw [hk]
  rfl

section
variable {a : SP} {fid : Nat} {caps : Array Value} {I : List Ins → (Nat → Prop) → World → Prop} {Fin : (Nat → Prop) → World → Prop}
set_option maxRecDepth 100000 in
set_option maxHeartbeats 4000000 in
theorem ins_term (w : World) (r : Rl) (F : Nat → Prop) (ok : a.Ok) (hr : r.Ok a.N) (hk : r.k = 2) (hcb : Cbk a (insts a.L a.s a.t r) fid caps I Fin) (hI : I [] F w) :
    Calls Tryd.prog 45 #[.pointer (some ⟨a.sp, 0, none⟩), r.val, .func (.func fid) #[] caps] w (InsPost a (insts a.L a.s a.t r) I Fin F w) := by
  rw [insts_term hk, ← arcsTo_end] at hcb ⊢
  have hrp0 := hr.p
  obtain ⟨rk, rh, ra, rb, rp, ro⟩ := r
  simp only at hk hrp0
  subst hk
  simp only [Rl.val]
  obtain ⟨w1, hw1⟩ : ∃ w1, w.alloc (.cells #[.int .i64 2, .int .i64 rh, .int .i64 ra, .int .i64 rb, .int .i64 rp, .int .i64 ro] 65) = w1 := ⟨_, rfl⟩
  have hb1 : Below w.heap.size w w1 := by rw [← hw1]; exact (Below.refl _ _).alloc (Nat.le_refl _) _
  have K1 : Blk w1 w.heap.size 65 #[.int .i64 2, .int .i64 rh, .int .i64 ra, .int .i64 rb, .int .i64 rp, .int .i64 ro] := by rw [← hw1]; exact Blk.new' w _ _ rfl
  have hI1 := hcb.below hI hb1
  have k0 := K1.cell 0
  simp at k0
  obtain ⟨bx, hbx⟩ : ∃ bx, w.heap.size = bx := ⟨_, rfl⟩
  rw [hbx] at k0 K1
  have hlt1 := K1.lt
  have hnL := ok.nL
  obtain ⟨r, hr2⟩ : ∃ r : Rl, r = ⟨2, rh, ra, rb, rp, ro⟩ := ⟨_, rfl⟩
  rw [← hr2] at hcb ⊢
  have hrp : r.p = rp := by rw [hr2]
  have hra : r.a = ra := by rw [hr2]
  have HRR := Lib.hid (And.intro hrp hra)
  have HFX : Hid (¬ F bx ∧ bx ≠ a.bb ∧ bx ≠ a.fb ∧ bx ≠ a.hb) := by
    have hbl := hcb.bl hI
    exact ⟨fun hf => by have := hcb.lt hI _ hf; omega, by omega, by omega, by omega⟩
  have HCB := Lib.hid hcb
  have HW1 := Lib.hid hw1
  have HI1 := Lib.hid hI1
  have HK1 := Lib.hid K1
  have HB1 := Lib.hid hb1
  have HOK := Lib.hid ok
  obtain ⟨n, hn⟩ : ∃ n, a.L.length = n := ⟨_, rfl⟩
  have HN := Lib.hid hn
  rw [hn] at hnL
  clear hcb hI hI1 hw1 hb1 K1 ok hr2 hr hrp hra hn
  go_enter Tryd.func45, Tryd.ntmps45
  go_upto_region 1 with fail
  rw [HW1.out]
  go_wp2_with fail
  refine (arcs_any w1 a (HCB.out.rd HI1.out) HOK.out).mono ?_
  rintro e w2 ⟨lo, hi, rfl, hsp, hb2⟩
  have hlen := hsp.len
  have hloh := hsp.le
  have HSP := Lib.hid hsp
  have HB2 := Lib.hid (HB1.out.trans (hb2.mono HB1.out.size))
  have HI2 := Lib.hid (HCB.out.below HI1.out hb2)
  have HK2 := Lib.hid (HK1.out.below hb2 HK1.out.lt)
  have hs2 := hb2.size
  rw [HN.out] at hlen
  clear hsp hb2 HI1 HK1 HB1 HW1 k0 hbx
  have hst : arcsTo a.L a.s a.t r lo = [] := by
    have := arcsTo_same a.L a.s a.t r 0 lo fun i _ h => arcIn_no (HSP.out.pre i (by omega))
    rw [Nat.zero_add] at this
    rw [this]; rfl
  have HI0 : Hid (I (arcsTo a.L a.s a.t r lo) F w2) := by rw [hst]; exact HI2
  clear HI2 hst
  go_wp2_with fail
  go_loopw [8] (fun x wr => ∃ (i : Nat) (G : Nat → Prop), lo ≤ i ∧ i ≤ hi ∧ x = .int .i64 i ∧ Hid (I (arcsTo a.L a.s a.t r i) G wr) ∧ Hid (Blk wr bx 65 #[.int .i64 2, .int .i64 rh, .int .i64 ra, .int .i64 rb, .int .i64 rp, .int .i64 ro]) ∧ Hid (Stp a w2 F wr G)) (fun x _ => hi - (intOf x).toNat)
  case atStart => exact ⟨lo, F, Nat.le_refl _, hloh, rfl, HI0, HK2, Lib.hid (Stp.refl _ _ _)⟩
  case round =>
    obtain ⟨i, G, hi1, hi2, rfl, HIR, HKR, HSR⟩ := hrel
    clear HI0 HK2
    by_cases hlt : i < hi
    case neg =>
      have hd : decide (i < hi) = false := by simp; omega
      obtain rfl : i = hi := by omega
      have hen : arcsTo a.L a.s a.t r a.L.length = arcsTo a.L a.s a.t r i := by
        have := arcsTo_same a.L a.s a.t r i (a.L.length - i) fun k h _ => arcIn_no (HSP.out.post k h)
        rw [show i + (a.L.length - i) = a.L.length by rw [HN.out]; omega] at this
        exact this
      have HF : Hid (InsPost a (arcsTo a.L a.s a.t r a.L.length) I Fin F w (.returned (.tuple #[])) wr) :=
        ⟨_, rfl, G, (Stp.of_below HB2.out).trans HSR.out, .inl (by rw [hen]; exact HIR.out)⟩
      clear hen
      go_wp2_with fail
      go_end0
      exact HF.out
    case pos =>
      have hd : decide (i < hi) = true := by simp; omega
      obtain ⟨b, off, x, hA, hb, hx, p0, p1, p2, p3, p4⟩ := (HCB.out.rd HIR.out).rL.ar_at (k := i) (by rw [HN.out]; omega)
      have htm := arcIn_tm (r := r) (HSP.out.mid i hi1 hlt) hx
      rw [HRR.out.1, HRR.out.2] at htm
      have hco := HOK.out.L.ok x (List.mem_of_getElem? hx)
      have hin : i < n := by omega
      have hinI : (i : Int) < (n : Int) := by omega
      have c5 := (HCB.out.rd HIR.out).kS.cell 5
      have k2 := HKR.out.cell 2
      have k4 := HKR.out.cell 4
      simp [SP.cells] at c5 k2 k4
      rw [HN.out, hA] at c5
      have hsu := arcsTo_succ a.L a.s a.t r i
      obtain ⟨rest, hcut, hcut2⟩ := arcsTo_cut a.L a.s a.t r a.L.length (a.L.length - i) i (by rw [HN.out]; omega)
      obtain ⟨rest', hrest⟩ := hcut2 (by rw [HN.out]; omega)
      by_cases htt : x.tm = ra
      case neg =>
        have dt : (x.tm == ra) = false := by simpa using htt
        rw [if_neg htt] at htm
        have HNX : Hid (∀ q, I (arcsTo a.L a.s a.t r (i + 1)) G (wr.drewN q)) := fun q => by
          rw [hsu, htm]
          simp only [Option.toList_none, List.append_nil]
          exact HCB.out.below HIR.out (below_drewN (Below.refl _ _) q)
        clear htm hsu hcut hcut2 hrest hx hA hco
        go_wp2_with fail
        go_quiet (fail)
        go_wp2_with fail
        go_roundw
        case rel => exact ⟨i + 1, G, by omega, by omega, by go_num, HNX.out _, Lib.hid (HKR.out.drewN _), Lib.hid (HSR.out.next (below_drewN (Below.refl _ _) _))⟩
        case measure => simp [intOf]; omega
      case pos =>
        have dt : (x.tm == ra) = true := by simpa using htt
        rw [if_pos htt] at htm
        rw [hrest, htm] at hcut
        rw [htm] at hsu
        have hwr : IntKind.i64.wrap (rp + x.co) = rp + x.co := IntWalk.i64_in _ (by omega)
        have hC := HCB.out.call (arcsTo a.L a.s a.t r i) ⟨i, rp + x.co, []⟩ rest' G wr.drew none 0 hcut (HCB.out.below HIR.out (Below.refl _ _).drew) Reads.nil_
        change Calls Tryd.prog fid (#[.int .i64 (i : Nat), .int .i64 (rp + x.co), .slice none 0 0] ++ caps) _ _ at hC
        have HC := Lib.hid hC
        have HSU := Lib.hid hsu
        have HSd : Hid (∀ w9 G9, Stp a wr.drew G w9 G9 → Stp a w2 F w9 G9 ∧ Blk w9 bx 65 #[.int .i64 2, .int .i64 rh, .int .i64 ra, .int .i64 rb, .int .i64 rp, .int .i64 ro]) := fun w9 G9 h9 => by
          refine ⟨(HSR.out.next (Below.refl _ _).drew).trans h9, ((HKR.out.drewN 1).stp h9 (fun hg => ?_) HFX.out.2)⟩
          rcases HSR.out.new bx hg with h | h
          · exact HFX.out.1 h
          · omega
        clear htm hsu hcut hcut2 hrest hx hA hC hco
        go_wp2_with fail
        go_still_tail 27, (by kernel_rfl)
        change wpList _ _ _ _ _ wr.drew
        go_wp2_with fail
        rw [HCB.out.enters, Oper.upon_enter]
        refine HC.out.mono ?_
        rintro e w3 ⟨b, G3, rfl, hs3, h1, h2⟩
        have HKK := Lib.hid (HSd.out w3 G3 hs3)
        have H1 := Lib.hid h1
        have H2 := Lib.hid h2
        clear hs3 h1 h2
        cases b with
        | false =>
          have HF : Hid (InsPost a (arcsTo a.L a.s a.t r a.L.length) I Fin F w (.returned (.tuple #[])) w3) :=
            ⟨_, rfl, G3, (Stp.of_below HB2.out).trans HKK.out.1, .inr (H2.out rfl)⟩
          go_wp2_with fail
          go_end0
          exact HF.out
        | true =>
          have HIN : Hid (I (arcsTo a.L a.s a.t r (i + 1)) G3 w3) := by rw [HSU.out]; exact H1.out rfl
          go_wp2_with fail
          go_roundw
          case rel => exact ⟨i + 1, G3, by omega, by omega, by go_num, HIN, Lib.hid HKK.out.2, Lib.hid HKK.out.1⟩
          case measure => simp [intOf]; omega
end
end Go.Proofs.YthakcefgbggkcaaDoor
