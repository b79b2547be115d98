/- The law of Goal. -/
import Derived.Test.YthakcefgbggkcaaDoorChMay
import Derived.Test.YthakcefgbggkcaaDoorChRBuild
import Derived.Test.YthakcefgbggkcaaDoorChRGoal
import Derived.Deep.DeepCutAuto
namespace Go.Proofs.YthakcefgbggkcaaDoor
open Go.RowKit

theorem rneq_vl_same (w : World) (a b : Int) : (binOp .neq 45 (.agg #[.int .i64 a, .int .i64 b]) (.agg #[.int .i64 a, .int .i64 b])).run Tryd.prog w = .ok (.bool false) w := by
  simp only [binOp]
  simp [go_sem, Op.equal, Op.maxDepth]
/-- What the law of Goal holds in memory. -/
structure GL (w0 w : World) (bn p g bv : Nat) (k1 k2 : Array Value) (N S nc : Nat) (cs : List Cl) (v : Vl) : Prop where
  k1 : Blk w bn 24 k1
  k2 : Blk w (bn + 1) 28 k2
  kp : Blk w p 34 #[.int .i64 N, .int .i64 S, .slice (some ⟨g, 0, none⟩) nc nc]
  kg : Blk w g 47 (cls cs).toArray
  kv : Blk w bv 45 #[.int .i64 v.c, .int .i64 v.s]
  below : Below bn w0 w
theorem GL.next {w0 w w' : World} {bn p g bv : Nat} {k1 k2 : Array Value} {N S nc : Nat} {cs : List Cl} {v : Vl} (h : GL w0 w bn p g bv k1 k2 N S nc cs v) (hb : Below w.heap.size w w') : GL w0 w' bn p g bv k1 k2 N S nc cs v :=
  ⟨h.k1.below hb h.k1.lt, h.k2.below hb h.k2.lt, h.kp.below hb h.kp.lt, h.kg.below hb h.kg.lt, h.kv.below hb h.kv.lt, h.below.trans (hb.mono (by have := h.k1.lt; omega))⟩
set_option maxRecDepth 100000 in
set_option maxHeartbeats 8000000 in
theorem lawGoal_any (w : World) (T N st S : Int) (RA LA FA : Option Addr) (nR rc nL lc nf fc B : Nat) (R : List Rl) (L : List Ar) (fs : List Int) (hR : Reads w B 6 RA nR (rls R)) (hL : Reads w B 5 LA nL (ars L)) (hF : Reads w B 1 FA nf (ints fs)) (hB : B ≤ w.heap.size) (hg : NoneAt w) :
    Calls Tryd.prog 7 #[.agg #[.int .i64 T, .int .i64 N, .int .i64 st, .slice RA nR rc], .agg #[.int .i64 S, .slice LA nL lc, .slice FA nf fc]] w fun e w' => e = .returned (.bool true) ∧ Below w.heap.size w w' := by
  have hlf := hF.len_ints
  obtain ⟨W, hW⟩ : ∃ W, (w.alloc (.cells #[.int .i64 T, .int .i64 N, .int .i64 st, .slice RA nR rc] 24)).alloc (.cells #[.int .i64 S, .slice LA nL lc, .slice FA nf fc] 28) = W := ⟨_, rfl⟩
  obtain ⟨bn, hbn⟩ : ∃ bn, w.heap.size = bn := ⟨_, rfl⟩
  have K1 : Blk W bn 24 #[.int .i64 T, .int .i64 N, .int .i64 st, .slice RA nR rc] := by rw [← hW]; exact (Blk.new' _ _ _ hbn).alloc _
  have K2 : Blk W (bn + 1) 28 #[.int .i64 S, .slice LA nL lc, .slice FA nf fc] := by rw [← hW]; exact Blk.new' _ _ _ (by simp; omega)
  have hBW : Below bn w W := by rw [← hW]; exact ((Below.refl _ _).alloc (by omega) _).alloc (by simp; omega) _
  have n0 := K1.cell 0
  have n1 := K1.cell 1
  have n2 := K1.cell 2
  have n3 := K1.cell 3
  have l0 := K2.cell 0
  have l1 := K2.cell 1
  have l2 := K2.cell 2
  simp at n0 n1 n2 n3 l0 l1 l2
  have HK1 := Lib.hid K1
  have HK2 := Lib.hid K2
  have HBW := Lib.hid hBW
  have HW := Lib.hid hW
  have HBN := Lib.hid hbn
  have hnR := hR.len_rls
  have hnL := hL.len_ars
  have HRL := Lib.hid hnR
  have HLL := Lib.hid hnL
  have HR := Lib.hid (hR.more (show B ≤ bn by omega))
  have HL := Lib.hid (hL.more (show B ≤ bn by omega))
  have HF := Lib.hid (hF.more (show B ≤ bn by omega))
  have HG := Lib.hid (hg.below hBW (by rw [← hbn]; exact hg.lt))
  have HMAY := Lib.hid (may_any W T N st S RA LA FA nR rc nL lc nf fc bn R L fs (HR.out.below hBW) (HL.out.below hBW) (HF.out.below hBW) (by have := hBW.size; omega))
  clear hW hBW K1 K2 hR hL hF hB hnR hnL hg
  go_enter Tryd.func7, Tryd.ntmps7
  go_upto_region 1 with fail
  try rw [hbn]
  rw [HW.out]
  go_wp2_with fail
  refine HMAY.out.mono ?_
  rintro e w1 ⟨b, rfl, hmay, hb1⟩
  have HM := Lib.hid hmay
  have HA1 := Lib.hid (HK1.out.below hb1 HK1.out.lt)
  have HA2 := Lib.hid (HK2.out.below hb1 HK2.out.lt)
  have HG1 : Hid (NoneAt w1) := HG.out.next hb1
  have HX1 : Hid (Below bn w w1) := HBW.out.trans (hb1.mono (by have := HBW.out.size; omega))
  clear n0 n1 n2 n3 l0 l1 l2 hb1 hmay HMAY
  cases b with
  | false =>
    have HAW := Lib.hid (awake_any w1 HG1.out)
    go_wp2_with fail
    refine HAW.out.mono ?_
    rintro e w2 ⟨rfl, hb2⟩
    have HX2 : Hid (Below bn w w2) := HX1.out.trans (hb2.mono (by have := HX1.out.size; omega))
    clear hb2
    go_wp2_with fail
    go_ret
    exact ⟨rfl, by rw [HBN.out]; exact HX2.out⟩
  | true =>
    have hok := (by first | exact HM.out rfl | exact HM.out trivial | exact HM.out : MayOk T N st S R L fs)
    obtain ⟨N', rfl⟩ := Int.eq_ofNat_of_zero_le (show 0 ≤ N by have := hok.nm.hN; omega)
    obtain ⟨S', rfl⟩ := Int.eq_ofNat_of_zero_le (show 0 ≤ S by have := hok.la.hS; omega)
    have hN0 : 0 < N' := by have := hok.nm.hN; omega
    have hN1 : N' ≤ 10 := by have := hok.hN; omega
    have hS1 : S' ≤ 9 := by have := hok.hS; omega
    have hrl := hok.nm.rl
    have hla := hok.la.ars
    rw [Int.toNat_natCast] at hrl hla
    have hnR := hok.hR
    have hnL := hok.hL
    rw [HRL.out] at hnR
    rw [HLL.out] at hnL
    have hsz : bn ≤ w1.heap.size := by have := HX1.out.size; omega
    have hfS : nf = S' := by have := hok.la.hS; omega
    have hfn : ∀ f ∈ fs, 0 ≤ f ∧ f ≤ 1099511627776 := hok.la.hF
    subst hfS
    obtain ⟨k1, hk1⟩ : ∃ k1 : Array Value, #[.int .i64 T, .int .i64 N', .int .i64 st, .slice RA nR rc] = k1 := ⟨_, rfl⟩
    obtain ⟨k2, hk2⟩ : ∃ k2 : Array Value, #[.int .i64 nf, .slice LA nL lc, .slice FA nf fc] = k2 := ⟨_, rfl⟩
    have HK := Lib.hid (And.intro hk1 hk2)
    rw [hk1] at HA1
    rw [hk2] at HA2
    have HRB := Lib.hid (rbuild_any w1 T st N' nf nR rc nL lc nf fc bn RA LA FA R L (HR.out.below HX1.out) (HL.out.below HX1.out) hsz hN0 (by omega) (by omega) (by omega) (by omega) hrl hla)
    have HFN := Lib.hid hfn
    have HSM := Lib.hid (And.intro hN1 hS1)
    have HLF := Lib.hid hlf
    have HFF : Hid (∀ w9, Below w1.heap.size w1 w9 → Reads w9 bn 1 FA nf (ints fs)) := fun w9 h9 => HF.out.below (HX1.out.trans (h9.mono hsz))
    have n0 : w1.cell? ⟨bn, 0, none⟩ = some (.int .i64 T) := by have := HA1.out.cell 0; rw [← HK.out.1] at this; simpa using this
    have n1 : w1.cell? ⟨bn, 1, none⟩ = some (.int .i64 N') := by have := HA1.out.cell 1; rw [← HK.out.1] at this; simpa using this
    have n2 : w1.cell? ⟨bn, 2, none⟩ = some (.int .i64 st) := by have := HA1.out.cell 2; rw [← HK.out.1] at this; simpa using this
    have n3 : w1.cell? ⟨bn, 3, none⟩ = some (.slice RA nR rc) := by have := HA1.out.cell 3; rw [← HK.out.1] at this; simpa using this
    have l0 : w1.cell? ⟨bn + 1, 0, none⟩ = some (.int .i64 nf) := by have := HA2.out.cell 0; rw [← HK.out.2] at this; simpa using this
    have l1 : w1.cell? ⟨bn + 1, 1, none⟩ = some (.slice LA nL lc) := by have := HA2.out.cell 1; rw [← HK.out.2] at this; simpa using this
    have l2 : w1.cell? ⟨bn + 1, 2, none⟩ = some (.slice FA nf fc) := by have := HA2.out.cell 2; rw [← HK.out.2] at this; simpa using this
    clear hok hrl hla hnR hnL HM hk1 hk2 hfn hlf
    go_upto_region 3 with fail
    go_upto_region 4 with (go_at_call 15; (with_reducible refine HRB.out.mono ?_); rintro e w2 ⟨g, nc, cs, rfl, hnc, bk, hgl, hch, hb2⟩; have HNC := Lib.hid hnc; clear hnc)
    obtain ⟨p, hp⟩ : ∃ p, w2.heap.size = p := ⟨_, rfl⟩
    obtain ⟨w3, hw3⟩ : ∃ w3, w2.alloc (.cells #[.int .i64 N', .int .i64 nf, .slice (some ⟨g, 0, none⟩) nc nc] 34) = w3 := ⟨_, rfl⟩
    have hb3 : Below w1.heap.size w1 w3 := by rw [← hw3]; exact hb2.alloc hb2.size _
    have hb23 : Below w2.heap.size w2 w3 := by rw [← hw3]; exact (Below.refl _ _).alloc (Nat.le_refl _) _
    have HP3 : Hid (Blk w3 p 34 #[.int .i64 N', .int .i64 nf, .slice (some ⟨g, 0, none⟩) nc nc]) := by rw [← hw3]; exact Blk.new' _ _ _ hp
    have HG3 : Hid (Blk w3 g 47 (cls cs).toArray) := bk.below hb23 bk.lt
    have HA13 := Lib.hid (HA1.out.below hb3 HA1.out.lt)
    have HA23 := Lib.hid (HA2.out.below hb3 HA2.out.lt)
    have HB3 := Lib.hid hb3
    have HNO3 : Hid (NoneAt w3) := HG1.out.next hb3
    have HCH := Lib.hid hch
    have hncb : nc ≤ 1000000000 := by
      have hnc := HNC.out
      have h1 := tri_le nf nf
      have h2 : nf * nf ≤ 9 * 9 := Nat.mul_le_mul hS1 hS1
      have h3 : tri nf nf * N' ≤ 81 * 10 := Nat.mul_le_mul (by omega) hN1
      omega
    have HORD : Hid (∀ x, Ordy (atC N' nf cs x).v) := fun x => (atC_nrm (Chart.nrm_ hch) x).1
    have hlc : cs.length = nc := by rw [HNC.out]; exact Chart.len_ hch
    have hcr : Reads w3 w3.heap.size 4 (some ⟨g, 0, none⟩) nc (cls cs) := Reads.of_cls HG3.out hlc
    have hsz3 : bn ≤ w3.heap.size := Nat.le_trans hsz hb3.size
    obtain ⟨gv, hgv⟩ : ∃ gv, gto N' nf st cs fs nf = gv := ⟨_, rfl⟩
    have HGO : Hid (Calls Tryd.prog 19 #[.agg #[.int .i64 T, .int .i64 N', .int .i64 st, .slice RA nR rc], .agg #[.int .i64 nf, .slice LA nL lc, .slice FA nf fc], .agg #[.int .i64 N', .int .i64 nf, .slice (some ⟨g, 0, none⟩) nc nc]] w3 fun e w' => e = .returned (.tuple #[.agg #[.int .i64 gv.1.c, .int .i64 gv.1.s], .int .i64 gv.2]) ∧ Below w3.heap.size w3 w') := by
      rw [← hgv]
      exact goal_any w3 T st N' nf nR rc nL lc nf fc nc nc w3.heap.size RA LA FA (some ⟨g, 0, none⟩) fs cs ((HFF.out _ hb3).more hsz3) hcr (Nat.le_refl _) HNO3.out (by omega) (by omega) hncb (by omega) (fun f hf => (HFN.out f hf).1) HORD.out
    have HRG : Hid (∀ w9, Below w3.heap.size w3 w9 → Calls Tryd.prog 24 #[.agg #[.int .i64 T, .int .i64 N', .int .i64 st, .slice RA nR rc], .agg #[.int .i64 nf, .slice LA nL lc, .slice FA nf fc], .agg #[.int .i64 N', .int .i64 nf, .slice (some ⟨g, 0, none⟩) nc nc]] w9 fun e w' => e = .returned (.tuple #[.agg #[.int .i64 gv.1.c, .int .i64 gv.1.s], .int .i64 gv.2]) ∧ Below w9.heap.size w9 w') := fun w9 h9 => by
      rw [← hgv]
      exact rgoal_any w9 T st N' nf nR rc nL lc nf fc nc nc w3.heap.size RA LA FA (some ⟨g, 0, none⟩) fs cs (((HFF.out _ hb3).more hsz3).below h9) (hcr.below h9) h9.size (by omega) (by omega) hncb rfl (fun f hf => (HFN.out f hf).1) HORD.out
    have HGV := Lib.hid hgv
    have HSZ3 := Lib.hid hsz3
    rw [hw3, hp]
    clear hw3 hp hb3 hb23 hb2 bk hgl hch hcr hsz3 hgv HRB n0 n1 n2 n3 l0 l1 l2
    have n0 : w3.cell? ⟨bn, 0, none⟩ = some (.int .i64 T) := by have := HA13.out.cell 0; rw [← HK.out.1] at this; simpa using this
    have n1 : w3.cell? ⟨bn, 1, none⟩ = some (.int .i64 N') := by have := HA13.out.cell 1; rw [← HK.out.1] at this; simpa using this
    have n2 : w3.cell? ⟨bn, 2, none⟩ = some (.int .i64 st) := by have := HA13.out.cell 2; rw [← HK.out.1] at this; simpa using this
    have n3 : w3.cell? ⟨bn, 3, none⟩ = some (.slice RA nR rc) := by have := HA13.out.cell 3; rw [← HK.out.1] at this; simpa using this
    have l0 : w3.cell? ⟨bn + 1, 0, none⟩ = some (.int .i64 nf) := by have := HA23.out.cell 0; rw [← HK.out.2] at this; simpa using this
    have l1 : w3.cell? ⟨bn + 1, 1, none⟩ = some (.slice LA nL lc) := by have := HA23.out.cell 1; rw [← HK.out.2] at this; simpa using this
    have l2 : w3.cell? ⟨bn + 1, 2, none⟩ = some (.slice FA nf fc) := by have := HA23.out.cell 2; rw [← HK.out.2] at this; simpa using this
    have c0 := HP3.out.cell 0
    have c1 := HP3.out.cell 1
    have c2 := HP3.out.cell 2
    simp at c0 c1 c2
    go_upto_region 5 with (go_at_call 19; (with_reducible refine HGO.out.mono ?_); rintro e w4 ⟨rfl, hb4⟩)
    obtain ⟨bv, hbv⟩ : ∃ bv, w4.heap.size = bv := ⟨_, rfl⟩
    obtain ⟨w5, hw5⟩ : ∃ w5, w4.alloc (.cells #[.int .i64 gv.1.c, .int .i64 gv.1.s] 45) = w5 := ⟨_, rfl⟩
    have hb5 : Below w3.heap.size w3 w5 := by rw [← hw5]; exact hb4.alloc hb4.size _
    have HGL5 : Hid (GL w w5 bn p g bv k1 k2 N' nf nc cs gv.1) :=
      ⟨HA13.out.below hb5 HA13.out.lt, HA23.out.below hb5 HA23.out.lt, HP3.out.below hb5 HP3.out.lt, HG3.out.below hb5 HG3.out.lt, by rw [← hw5]; exact Blk.new' _ _ _ hbv, (HX1.out.trans (HB3.out.mono hsz)).trans (hb5.mono HSZ3.out)⟩
    have HRG5 := Lib.hid (HRG.out _ hb5)
    have HNO5 : Hid (NoneAt w5) := HNO3.out.next hb5
    rw [hw5, hbv]
    clear hw5 hbv hb4 hb5 HGO HRG n0 n1 n2 n3 l0 l1 l2 c0 c1 c2
    have n0 : w5.cell? ⟨bn, 0, none⟩ = some (.int .i64 T) := by have := HGL5.out.k1.cell 0; rw [← HK.out.1] at this; simpa using this
    have n1 : w5.cell? ⟨bn, 1, none⟩ = some (.int .i64 N') := by have := HGL5.out.k1.cell 1; rw [← HK.out.1] at this; simpa using this
    have n2 : w5.cell? ⟨bn, 2, none⟩ = some (.int .i64 st) := by have := HGL5.out.k1.cell 2; rw [← HK.out.1] at this; simpa using this
    have n3 : w5.cell? ⟨bn, 3, none⟩ = some (.slice RA nR rc) := by have := HGL5.out.k1.cell 3; rw [← HK.out.1] at this; simpa using this
    have l0 : w5.cell? ⟨bn + 1, 0, none⟩ = some (.int .i64 nf) := by have := HGL5.out.k2.cell 0; rw [← HK.out.2] at this; simpa using this
    have l1 : w5.cell? ⟨bn + 1, 1, none⟩ = some (.slice LA nL lc) := by have := HGL5.out.k2.cell 1; rw [← HK.out.2] at this; simpa using this
    have l2 : w5.cell? ⟨bn + 1, 2, none⟩ = some (.slice FA nf fc) := by have := HGL5.out.k2.cell 2; rw [← HK.out.2] at this; simpa using this
    have c0 := HGL5.out.kp.cell 0
    have c1 := HGL5.out.kp.cell 1
    have c2 := HGL5.out.kp.cell 2
    simp at c0 c1 c2
    go_upto_region 6 with (go_at_call 24; (with_reducible refine HRG5.out.mono ?_); rintro e w6 ⟨rfl, hb6⟩)
    obtain ⟨b8, hb8⟩ : ∃ b8, w6.heap.size = b8 := ⟨_, rfl⟩
    obtain ⟨w7, hw7⟩ : ∃ w7, w6.alloc (.cells #[.int .i64 gv.1.c, .int .i64 gv.1.s] 45) = w7 := ⟨_, rfl⟩
    have hb7 : Below w5.heap.size w5 w7 := by rw [← hw7]; exact hb6.alloc hb6.size _
    have HGL7 := Lib.hid (HGL5.out.next hb7)
    have HK8 : Hid (Blk w7 b8 45 #[.int .i64 gv.1.c, .int .i64 gv.1.s]) := by rw [← hw7]; exact Blk.new' _ _ _ hb8
    have HNO7 : Hid (NoneAt w7) := HNO5.out.next hb7
    rw [hw7, hb8]
    clear hw7 hb8 hb6 hb7 HRG5 n0 n1 n2 n3 l0 l1 l2 c0 c1 c2
    have x0 := HGL7.out.kv.cell 0
    have x1 := HGL7.out.kv.cell 1
    have y0 := HK8.out.cell 0
    have y1 := HK8.out.cell 1
    simp at x0 x1 y0 y1
    have hne := fun w9 : World => rneq_vl_same w9 gv.1.c gv.1.s
    have hnq : (gv.2 != gv.2) = false := by simp
    go_upto_region 8 with fail
    clear x0 x1 y0 y1 hne hnq
    go_wp2_with fail
    go_loopw [10] (fun x wr => ∃ i : Nat, i ≤ nf ∧ x = .int .i64 i ∧ Hid (GL w wr bn p g bv k1 k2 N' nf nc cs gv.1) ∧ Hid (NoneAt wr)) (fun x _ => nf - (intOf x).toNat)
    case atStart => exact ⟨0, Nat.zero_le _, rfl, HGL7, HNO7⟩
    case round =>
      obtain ⟨i, hi, rfl, HGL, HNO⟩ := hrel
      clear HGL7 HNO7
      have l0 : wr.cell? ⟨bn + 1, 0, none⟩ = some (.int .i64 nf) := by have := HGL.out.k2.cell 0; rw [← HK.out.2] at this; simpa using this
      by_cases hlt : i < nf
      case neg => as_aux_lemma =>
        have hltD : decide (i < nf) = false := by simp [hlt]
        have HAW := Lib.hid (awake_any wr HNO.out)
        go_wp2_with fail
        refine HAW.out.mono ?_
        rintro e w9 ⟨rfl, hb9⟩
        have HX9 : Hid (Below bn w w9) := HGL.out.below.trans (hb9.mono (by have := HGL.out.k1.lt; omega))
        clear hb9
        go_wp2_with fail
        go_ret
        exact ⟨rfl, by rw [HBN.out]; exact HX9.out⟩
      case pos =>
        have hltD : decide (i < nf) = true := by simp [hlt]
        have ui : IntKind.i64.wrap ((i : Int) + 1) = (i : Int) + 1 := IntWalk.i64_in _ (by omega)
        have hsr : bn ≤ wr.heap.size := by have := HGL.out.k1.lt; omega
        obtain ⟨bf, of, hFA, hbf, p0⟩ := (HF.out.below HGL.out.below).int_at hlt
        obtain ⟨f, hfi⟩ : ∃ f, fs[i]? = some f := ⟨_, List.getElem?_eq_getElem (by rw [HLF.out]; exact hlt)⟩
        have hf0 := HFN.out f (List.mem_of_getElem? hfi)
        rw [hfi] at p0
        simp only [Option.getD_some] at p0
        have HFA := Lib.hid hFA
        obtain ⟨x, hx⟩ : ∃ x, atC N' nf cs ⟨st, 0, i⟩ = x := ⟨_, rfl⟩
        have hxo : Ordy x.v := by rw [← hx]; exact HORD.out _
        have HXO := Lib.hid hxo
        have HAT : Hid (∀ w9, Below wr.heap.size wr w9 → Calls Tryd.prog 26 #[.agg #[.int .i64 N', .int .i64 nf, .slice (some ⟨g, 0, none⟩) nc nc], .agg #[.int .i64 st, .int .i64 0, .int .i64 i]] w9 fun e w' => e = .returned (.agg #[.int .i64 x.v.c, .int .i64 x.v.s, .int .i64 x.r, .int .i64 x.a]) ∧ Below w9.heap.size w9 w') := fun w9 h9 => by
          have h := rat_any N' nf nc nc wr.heap.size (some ⟨g, 0, none⟩) cs ⟨st, 0, i⟩ w9 ((Reads.of_cls HGL.out.kg hlc).below h9) h9.size (by omega) (by omega) (by omega)
          rw [hx] at h
          exact h
        obtain ⟨v, hv⟩ : ∃ v, comb f [x.v] = v := ⟨_, rfl⟩
        have HCB : Hid (∀ (w9 : World) (A : Option Addr) (c B : Nat), Reads w9 B 2 A 1 (vls [x.v]) → B ≤ w9.heap.size → Calls Tryd.prog 25 #[.int .i64 f, .slice A 1 c] w9 fun e' w' => e' = .returned (.agg #[.int .i64 v.c, .int .i64 v.s]) ∧ Below w9.heap.size w9 w') := fun w9 A c B h1 h2 => by
          rw [← hv]
          exact rcombine_any f A 1 c B [x.v] w9 h1 h2 hf0.1 (by omega) (by intro u hu; simp at hu; rw [hu]; exact HXO.out) (by omega)
        have hmin : v.c < 1099511627776 → vlt v.c v.s gv.1.c gv.1.s = false := by
          have h := (gto_min N' nf st cs fs HORD.out nf).1 i hlt
          rw [HGV.out] at h
          have e : gval N' nf st cs fs i = v := by unfold gval; rw [hfi, hx]; exact hv
          rw [e] at h
          exact h
        have HMIN := Lib.hid hmin
        have hfd : ∀ (c s r x : Int) (w : World), (Instr.field 47 (.agg #[.int .i64 c, .int .i64 s, .int .i64 r, .int .i64 x]) 0).run Tryd.prog w = .ok (.agg #[.int .i64 c, .int .i64 s]) w := fun _ _ _ _ _ => by kernel_rfl
        have H9 : Hid (∀ w', Below wr.heap.size wr w' → w'.cell? ⟨bn + 1, 2, none⟩ = some (.slice (some ⟨bf, of, none⟩) nf fc) ∧ w'.cell? ⟨bf, of + i, none⟩ = some (.int .i64 f) ∧ w'.cell? ⟨bn, 2, none⟩ = some (.int .i64 st) ∧ w'.cell? ⟨p, 0, none⟩ = some (.int .i64 N') ∧ w'.cell? ⟨p, 1, none⟩ = some (.int .i64 nf) ∧ w'.cell? ⟨p, 2, none⟩ = some (.slice (some ⟨g, 0, none⟩) nc nc)) := fun w9 h9 => by
          have K := HGL.out.next h9
          have a1 := K.k2.cell 2
          have a2 := K.k1.cell 2
          rw [← HK.out.2, HFA.out] at a1
          rw [← HK.out.1] at a2
          exact ⟨a1, (h9.cell (p := ⟨bf, of + i, none⟩) (World.block_lt_of_cell? wr _ p0)).trans p0, a2, K.kp.cell 0, K.kp.cell 1, K.kp.cell 2⟩
        clear hv hx hxo hfi hmin hFA
        go_upto_region 11 with fail
        have B8 : Below wr.heap.size wr wr.drew := (Below.refl _ _).drew
        have B8a : Below wr.heap.size wr (wr.alloc (.cells #[.int .i64 0, .int .i64 0] 45)).drew := ((Below.refl _ wr).alloc (Nat.le_refl _) _).drew
        have Z8 : Blk (wr.alloc (.cells #[.int .i64 0, .int .i64 0] 45)).drew wr.heap.size 45 #[.int .i64 0, .int .i64 0] := Blk.drewN (Blk.new' wr _ _ rfl) 1
        have hz8 : wr.heap.size < (wr.alloc (.cells #[.int .i64 0, .int .i64 0] 45)).drew.heap.size := Z8.lt
        go_cut [11] (fun xp wx => ∃ g : Nat, xp = .pointer (some ⟨g, 0, none⟩) ∧ Blk wx g 45 #[.int .i64 v.c, .int .i64 v.s] ∧ Below wr.heap.size wr wx)
        case first =>
          go_region_held3 (fun w' => w'.cell? ⟨bn + 1, 2, none⟩ = some (.slice (some ⟨bf, of, none⟩) nf fc) ∧ w'.cell? ⟨bf, of + i, none⟩ = some (.int .i64 f) ∧ w'.cell? ⟨bn, 2, none⟩ = some (.int .i64 st) ∧ w'.cell? ⟨p, 0, none⟩ = some (.int .i64 N') ∧ w'.cell? ⟨p, 1, none⟩ = some (.int .i64 nf) ∧ w'.cell? ⟨p, 2, none⟩ = some (.slice (some ⟨g, 0, none⟩) nc nc))
            (first | exact H9.out _ B8 | exact H9.out _ B8a | exact H9.out _ X4 | exact H9.out _ (X4.alloc hz4 _) | exact H9.out _ ((X4.alloc hz4 _).alloc (by simp <;> omega) _) | exact H9.out _ X5 | exact H9.out _ (X5.alloc hz5 _) | exact H9.out _ ((X5.setCell (p := ⟨wr.heap.size, 0, none⟩) (Nat.le_refl _) _).setCell (p := ⟨wr.heap.size, 1, none⟩) (Nat.le_refl _) _) | exact H9.out _ ((X5.setCell (p := ⟨w4.heap.size, 0, none⟩) hz4 _).setCell (p := ⟨w4.heap.size, 1, none⟩) hz4 _) | exact H9.out _ ((X5.setCell (p := ⟨w4.heap.size + 1, 0, none⟩) hz41 _).setCell (p := ⟨w4.heap.size + 1, 1, none⟩) hz41 _))
            (first
              | (go_at_call 26; (with_reducible refine (HAT.out _ B8).mono ?_); rintro e4 w4 ⟨rfl, hb4⟩; have X4 : Below wr.heap.size wr w4 := B8.trans (hb4.mono B8.size); have hz4 : wr.heap.size ≤ w4.heap.size := X4.size; have hz41 : wr.heap.size ≤ w4.heap.size + 1 := Nat.le_succ_of_le hz4)
              | (go_at_call 26; (with_reducible refine (HAT.out _ B8a).mono ?_); rintro e4 w4 ⟨rfl, hb4⟩; have X4 : Below wr.heap.size wr w4 := B8a.trans (hb4.mono B8a.size); have hz4 : wr.heap.size ≤ w4.heap.size := X4.size; have hz41 : wr.heap.size ≤ w4.heap.size + 1 := Nat.le_succ_of_le hz4; have Z4 := Z8.below hb4 hz8)
              | (go_at_call 25; (with_reducible refine (HCB.out _ (some ⟨w4.heap.size, 0, none⟩) 1 (w4.heap.size + 1) (reads_one w4 x.v) (by simp)).mono ?_); rintro e5 w5 ⟨rfl, hb5⟩; have X5 : Below wr.heap.size wr w5 := (X4.alloc hz4 (.cells #[.int .i64 x.v.c, .int .i64 x.v.s] 45)).trans (hb5.mono (by simp <;> omega)); have hz5 : wr.heap.size ≤ w5.heap.size := X5.size; have Z5 := (Z4.alloc (.cells #[.int .i64 x.v.c, .int .i64 x.v.s] 45)).below hb5 (Z4.alloc (.cells #[.int .i64 x.v.c, .int .i64 x.v.s] 45)).lt; have n0 := Z5.cell 0; have n1 := Z5.cell 1; simp at n0 n1; have m0 := Z5.frozen 0; have m1 := Z5.frozen 1)
              | (go_at_call 25; (with_reducible refine (HCB.out _ (some ⟨w4.heap.size, 0, none⟩) 1 (w4.heap.size + 1) (reads_one w4 x.v) (by simp)).mono ?_); rintro e5 w5 ⟨rfl, hb5⟩; have X5 : Below wr.heap.size wr w5 := (X4.alloc hz4 (.cells #[.int .i64 x.v.c, .int .i64 x.v.s] 45)).trans (hb5.mono (by simp <;> omega)); have hz5 : wr.heap.size ≤ w5.heap.size := X5.size)
              | (go_at_call 25; (with_reducible refine (HCB.out _ (some ⟨w4.heap.size, 0, none⟩) 1 (w4.heap.size + 1) ((reads_one w4 x.v).alloc (by simp) (.cells #[.int .i64 0, .int .i64 0] 45)) (by simp <;> omega)).mono ?_); rintro e5 w5 ⟨rfl, hb5⟩; have X5 : Below wr.heap.size wr w5 := ((X4.alloc hz4 (.cells #[.int .i64 x.v.c, .int .i64 x.v.s] 45)).alloc (by simp <;> omega) (.cells #[.int .i64 0, .int .i64 0] 45)).trans (hb5.mono (by simp <;> omega)); have hz5 : wr.heap.size ≤ w5.heap.size := X5.size; have Z5 : Blk w5 (w4.heap.size + 1) 45 #[.int .i64 0, .int .i64 0] := (Blk.new' (w4.alloc (.cells #[.int .i64 x.v.c, .int .i64 x.v.s] 45)) 45 #[.int .i64 0, .int .i64 0] (g := w4.heap.size + 1) (by simp)).below hb5 (by simp); have n0 := Z5.cell 0; have n1 := Z5.cell 1; simp at n0 n1; have m0 := Z5.frozen 0; have m1 := Z5.frozen 1)
              | (go_at_call 25; (with_reducible refine (HCB.out _ (some ⟨w4.heap.size + 1, 0, none⟩) 1 (w4.heap.size + 1 + 1) (reads_one_at (w4.alloc (.cells #[.int .i64 0, .int .i64 0] 45)) x.v (by simp)) (by simp)).mono ?_); rintro e5 w5 ⟨rfl, hb5⟩; have X5 : Below wr.heap.size wr w5 := ((X4.alloc hz4 (.cells #[.int .i64 0, .int .i64 0] 45)).alloc (by simp <;> omega) (.cells #[.int .i64 x.v.c, .int .i64 x.v.s] 45)).trans (hb5.mono (by simp <;> omega)); have hz5 : wr.heap.size ≤ w5.heap.size := X5.size; have Z5 : Blk w5 w4.heap.size 45 #[.int .i64 0, .int .i64 0] := ((Blk.new' w4 45 #[.int .i64 0, .int .i64 0] rfl).alloc (.cells #[.int .i64 x.v.c, .int .i64 x.v.s] 45)).below hb5 (by simp <;> omega); have n0 := Z5.cell 0; have n1 := Z5.cell 1; simp at n0 n1; have m0 := Z5.frozen 0; have m1 := Z5.frozen 1))
          all_goals
            go_wp2_with fail
            go_meet
          · exact ⟨_, rfl, Blk.new' w5 _ _ rfl, X5.alloc hz5 _⟩
          · exact ⟨_, rfl, Z5.set2 _ _, (X5.setCell (p := ⟨w4.heap.size + 1, 0, none⟩) hz41 _).setCell (p := ⟨w4.heap.size + 1, 1, none⟩) hz41 _⟩
          · exact ⟨_, rfl, Z5.set2 _ _, (X5.setCell (p := ⟨w4.heap.size, 0, none⟩) hz4 _).setCell (p := ⟨w4.heap.size, 1, none⟩) hz4 _⟩
          · exact ⟨_, rfl, Z5.set2 _ _, (X5.setCell (p := ⟨wr.heap.size, 0, none⟩) (Nat.le_refl _) _).setCell (p := ⟨wr.heap.size, 1, none⟩) (Nat.le_refl _) _⟩
        case rest =>
          obtain ⟨bx, rfl, kx, hx6⟩ := hcut
          rename World => w8
          have HGL8 := Lib.hid (HGL.out.next hx6)
          have HNO8 : Hid (NoneAt w8) := HNO.out.next hx6
          have HKX := Lib.hid kx
          have x0 := HKX.out.cell 0
          have x1 := HKX.out.cell 1
          have y0 := HGL8.out.kv.cell 0
          have y1 := HGL8.out.kv.cell 1
          simp at x0 x1 y0 y1
          clear kx hx6 HGL HAT HCB hfd p0 l0 hsr H9 B8 B8a Z8 hz8 HNO
          by_cases h1 : v.c < 1099511627776
          case neg => as_aux_lemma =>
            have d1 : decide (v.c < 1099511627776) = false := by simp; omega
            go_wp2_with fail
            go_roundw
            case rel => exact ⟨i + 1, by omega, by go_num, HGL8, HNO8⟩
            case measure => simp [intOf]; omega
          case pos => as_aux_lemma =>
            have d1 : decide (v.c < 1099511627776) = true := by simp; omega
            have hls := rless_any v.c v.s gv.1.c gv.1.s w8
            rw [HMIN.out h1] at hls
            have HLS := Lib.hid hls
            clear hls
            go_wp2_with (go_at_call 27; with_reducible refine HLS.out.mono ?_; rintro e w7 ⟨rfl, hb7⟩; have HGL9 := Lib.hid (HGL8.out.next hb7); have HNO9 := Lib.hid (HNO8.out.next hb7); clear hb7)
            go_roundw
            case rel => exact ⟨i + 1, by omega, by go_num, HGL9, HNO9⟩
            case measure => simp [intOf]; omega
end Go.Proofs.YthakcefgbggkcaaDoor
