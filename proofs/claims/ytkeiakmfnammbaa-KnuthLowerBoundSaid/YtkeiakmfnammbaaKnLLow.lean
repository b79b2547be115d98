/- The law KnuthLowerBound. -/
import Derived.Test.YtkeiakmfnammbaaKnValue
import Derived.Test.YtkeiakmfnammbaaKnLLess
namespace Go.Proofs.Ytkeiakmfnammbaa
open Go.RowKit

set_option maxRecDepth 100000 in
set_option maxHeartbeats 8000000 in
theorem lawLow_any (Z : Int) (ce B : Nat) (E : Option Addr) (es : List Ed) (x : Int) (v0 v1 : Value) (dn : Nat) (w : World) (hE : HG w B E es.length es) (hB : B ≤ w.heap.size) (hx : 0 ≤ x ∧ x ≤ 255) (hd : Dvs w B dn v0 v1) : Calls Try.prog 8 #[.agg #[.int .i64 Z, .slice E es.length ce], .int .u8 x, .agg #[v0, v1]] w fun e w' => e = .returned (.bool true) ∧ Below w.heap.size w w' := by
  have HE := Lib.hid (hE.more hB)
  have HD := Lib.hid (hd.more hB)
  obtain _ | dn := dn
  · exact hd.elim
  obtain ⟨ed, A, c, l, rfl, rfl, _, _, _⟩ := hd
  obtain ⟨xk, rfl⟩ := Int.eq_ofNat_of_zero_le hx.1
  have hk255 : xk ≤ 255 := by omega
  clear hx hE
  obtain ⟨M, hMM⟩ : ∃ M, es.length = M := ⟨_, rfl⟩
  obtain ⟨K, hK⟩ : ∃ K, l.length = K := ⟨_, rfl⟩
  rw [hK] at HD ⊢
  rw [hMM] at HE ⊢
  have HMM := Lib.hid hMM
  clear hMM hK
  go_enter Try.func8, Try.ntmps8
  go_wp2_with fail
  obtain ⟨w1, hw1⟩ : ∃ w1, (w.alloc (.cells #[.int .i64 Z, .slice E M ce] 34)).alloc (.cells #[.int .i64 ed, .slice A K c] 49) = w1 := ⟨_, rfl⟩
  rw [hw1]
  obtain ⟨bh, hbh⟩ : ∃ bh, w.heap.size = bh := ⟨_, rfl⟩
  have HKH1 : Hid (Blk w1 bh 34 #[.int .i64 Z, .slice E M ce]) := by rw [← hw1]; exact (Blk.new' w _ _ hbh).alloc _
  have HKD1 : Hid (Blk w1 (bh + 1) 49 #[.int .i64 ed, .slice A K c]) := by rw [← hw1]; exact Blk.new' _ _ _ (by simp; omega)
  have HB1 : Hid (Below w.heap.size w w1) := by rw [← hw1]; exact ((Below.refl _ _).alloc (Nat.le_refl _) _).alloc (by simp) _
  try rw [hbh]
  clear hw1 hbh
  have hs := bounded_any w1 Z ce w.heap.size E es (by rw [HMM.out]; exact HE.out.below HB1.out) HB1.out.size
  rw [HMM.out] at hs
  refine hs.mono ?_
  rintro e w2 ⟨b, rfl, hb, hbw⟩
  have HBB := Lib.hid hb
  have HKH2 := Lib.hid (HKH1.out.below hbw HKH1.out.lt)
  have HKD2 := Lib.hid (HKD1.out.below hbw HKD1.out.lt)
  have HB2 : Hid (Below w.heap.size w w2) := HB1.out.trans (hbw.mono HB1.out.size)
  clear hs hb hbw HKH1 HB1 HKD1
  cases b with
  | false =>
    go_wp2_with fail
    refine (awake_any _).mono ?_
    rintro e wa ⟨rfl, hba⟩
    go_wp2_with fail
    go_ret
    exact ⟨rfl, HB2.out.trans (hba.mono HB2.out.size)⟩
  | true =>
  obtain ⟨N, hZ, hN1, hN2, hM, hok, _, _, _⟩ := HBB.out rfl
  rw [HMM.out] at hM
  subst hZ
  have HOK := Lib.hid hok
  have c0 : w2.cell? ⟨bh, 0, none⟩ = some (.int .i64 N) := HKH2.out.cell 0
  have c1 : w2.cell? ⟨bh, 1, none⟩ = some (.slice E M ce) := HKH2.out.cell 1
  have d0 : w2.cell? ⟨bh + 1, 0, none⟩ = some (.int .i64 ed) := HKD2.out.cell 0
  have d1 : w2.cell? ⟨bh + 1, 1, none⟩ = some (.slice A K c) := HKD2.out.cell 1
  clear hok HBB
  obtain ⟨k, hk⟩ : ∃ k, xk % N = k := ⟨_, rfl⟩
  have hkN : k < N := by have := Nat.mod_lt xk (show 0 < N by omega); omega
  have HKM := Lib.hid hk
  have hN0 : ¬ N = 0 := by omega
  have hz : ((N : Int) == 0) = false := by rw [beq_eq_false_iff_ne]; omega
  have v1 : IntKind.i64.wrap (xk : Int) = (xk : Int) := IntWalk.i64_in _ (by omega)
  have v2 : (xk : Int).tmod (N : Int) = (k : Int) := by rw [← HKM.out]; rfl
  have v3 : xk % N = k := HKM.out
  have v5 : IntKind.i64.wrap (k : Int) = (k : Int) := IntWalk.i64_in _ (by omega)
  have v8 : (xk : Int) % (N : Int) = (k : Int) := by rw [← v3]; exact (Int.natCast_emod xk N).symm
  clear hk
  go_wp2_with fail
  clear v1 v2 v3 v5 v8
  refine (value_any N M ce E es HMM HOK hM 200 w2 w.heap.size (dn + 1) k 200 (.int .i64 ed) (.slice A K c) (HE.out.below HB2.out) HB2.out.size (HD.out.below HB2.out (Nat.le_refl _)) (by decide) (by decide)).mono ?_
  rintro e w3 ⟨y, b, rfl, hoy, hlb, hb3⟩
  have HLB := Lib.hid hlb
  have HKH3 := Lib.hid (HKH2.out.below hb3 HKH2.out.lt)
  have HB3 : Hid (Below w.heap.size w w3) := HB2.out.trans (hb3.mono HB2.out.size)
  clear hoy hlb hb3 c0 c1 d0 d1 HKH2 HB2 HKD2
  go_upto_region 5 with fail
  obtain ⟨w4, hw4⟩ : ∃ w4, w3.alloc (.cells #[.int .i64 y.c, .int .i64 y.s] 23) = w4 := ⟨_, rfl⟩
  obtain ⟨gy, hgy⟩ : ∃ gy, w3.heap.size = gy := ⟨_, rfl⟩
  have HKY : Hid (Blk w4 gy 23 #[.int .i64 y.c, .int .i64 y.s]) := by rw [← hw4]; exact Blk.new' w3 _ _ hgy
  have hx4 : Below w3.heap.size w3 w4 := by rw [← hw4]; exact (Below.refl _ _).alloc (Nat.le_refl _) _
  have HKH4 := Lib.hid (HKH3.out.below hx4 HKH3.out.lt)
  have HB4 : Hid (Below w.heap.size w w4) := HB3.out.trans (hx4.mono HB3.out.size)
  try rw [hw4]
  try rw [hgy]
  clear hw4 hgy hx4 HKH3 HB3
  have c0 : w4.cell? ⟨bh, 0, none⟩ = some (.int .i64 N) := HKH4.out.cell 0
  have c1 : w4.cell? ⟨bh, 1, none⟩ = some (.slice E M ce) := HKH4.out.cell 1
  go_wp2_with fail
  have hs := solve_any w4 N ce w.heap.size E es (by rw [HMM.out]; exact HE.out.below HB4.out) HB4.out.size HOK.out hN2 (by rw [HMM.out]; exact hM)
  rw [HMM.out] at hs
  refine hs.mono ?_
  rintro e w5 ⟨va, ea, V, rfl, hVl, KV, _, hsol, _, _, hb5⟩
  have HKH5 := Lib.hid (HKH4.out.below hb5 HKH4.out.lt)
  have HKY5 := Lib.hid (HKY.out.below hb5 HKY.out.lt)
  have HB5 : Hid (Below w.heap.size w w5) := HB4.out.trans (hb5.mono HB4.out.size)
  have HKV := Lib.hid KV
  have HS := Lib.hid hsol
  clear hs KV hsol hb5 c0 c1 HKH4 HKY HB4
  obtain ⟨v, hv⟩ : ∃ v, V[k]? = some v := ⟨_, List.getElem?_eq_getElem (by omega)⟩
  obtain ⟨p0, p1⟩ := HKV.out.vl_at hv
  have hgk : gv V k = v := by simp [gv, hv]
  have f0 := ext_cell (show w5.cell? ⟨bh, 0, none⟩ = some (.int .i64 N) from HKH5.out.cell 0)
  have f1 := ext_cell (show w5.cell? ⟨gy, 0, none⟩ = some (.int .i64 y.c) from HKY5.out.cell 0)
  have f2 := ext_cell (show w5.cell? ⟨gy, 1, none⟩ = some (.int .i64 y.s) from HKY5.out.cell 1)
  have f3 := ext_cell p0
  have f4 := ext_cell p1
  have HLSD : Hid (b = true → Hid (∀ w, Calls Try.prog 14 #[.agg #[.int .i64 y.c, .int .i64 y.s], .agg #[.int .i64 v.c, .int .i64 v.s]] w fun e w' => e = .returned (.bool false) ∧ Below w.heap.size w w')) := fun h => by
    apply rless_b
    cases h1 : vlt y.c y.s v.c v.s with
    | false => rfl
    | true =>
      have h2 := (HLB.out h).2 (gv V) HS.out.nrm HS.out.pre
      rw [Int.toNat_natCast, hgk] at h2
      exact absurd h2 (vlt_iff.1 h1)
  have hqN : ((N : Int) == (N : Int)) = true := by simp
  clear p0 p1 hgk hv HLB
  go_upto_region 6 with fail
  cases b with
  | false =>
    clear HLSD
    refine wp_region_ext (by kernel_rfl) (by kernel_rfl) ?_
    repeat (go_big_quiet_step (with_reducible exact calls_ext (awake_any _)))
    refine wpQuiet_nil ?_
    rintro _ ⟨u, rfl⟩
    go_wp2_with fail
    go_ret
    exact ⟨rfl, HB5.out.trans (u.h.mono HB5.out.size)⟩
  | true =>
    have HL := HLSD.out rfl
    clear HLSD
    refine wp_region_ext (by kernel_rfl) (by kernel_rfl) ?_
    repeat (go_big_quiet_step (first | with_reducible exact calls_ext (awake_any _) | with_reducible exact calls_ext (HL.out _)))
    refine wpQuiet_nil ?_
    rintro _ ⟨u, rfl⟩
    go_wp2_with fail
    go_ret
    exact ⟨rfl, HB5.out.trans (u.h.mono HB5.out.size)⟩
end Go.Proofs.Ytkeiakmfnammbaa
