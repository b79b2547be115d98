/- The solver's combine. -/
import Derived.Test.YtkeiakmfnammbaaKnEd
namespace Go.Proofs.Ytkeiakmfnammbaa
open Go.RowKit

set_option maxRecDepth 100000 in
set_option maxHeartbeats 1000000 in
theorem scombine_any (w : World) (sb gg n' c' B N : Nat) (V : List Vl) (A : Option Addr) (c : Nat) (hd cost l0 l1 : Int) (ts : List Int)
    (hs : w.cell? ⟨sb, 2, none⟩ = some (.slice (some ⟨gg, 0, none⟩) n' c')) (hV : Blk w gg 23 (vls V).toArray) (hn' : n' = V.length) (hN : N ≤ V.length) (hR : Reads w B 1 A ts.length (ints ts)) (hB : B ≤ w.heap.size)
    (hts : ∀ t ∈ ts, 0 ≤ t ∧ t < N) (hc : 0 ≤ cost) (hfew : ts.length ≤ 4) (ho : ∀ v ∈ V, Ordy v) :
    Calls Try.prog 34 #[.pointer (some ⟨sb, 0, none⟩), .agg #[.int .i64 hd, .slice A ts.length c, .int .i64 cost, .int .i64 l0, .int .i64 l1]] w fun e w' =>
      e = .returned (.agg #[.int .i64 (comb cost (tlv (gv V) ts)).c, .int .i64 (comb cost (tlv (gv V) ts)).s]) ∧ Below w.heap.size w w' := by
  subst hn'
  have HR := Lib.hid (hR.more hB)
  have HT := Lib.hid hts
  have HO := Lib.hid ho
  have hsl := World.block_lt_of_cell? w _ hs
  simp only at hsl
  obtain ⟨n, hN'⟩ : ∃ n, ts.length = n := ⟨_, rfl⟩
  obtain ⟨M, hM⟩ : ∃ M, V.length = M := ⟨_, rfl⟩
  have hfn : n ≤ 4 := by omega
  have hmk := run_make_vls n (by omega)
  rw [hM] at hs
  rw [hN'] at HR ⊢
  have HV := Lib.hid hV
  have hs1 := hs
  clear hR hts ho hV
  have hlen : Hid (∀ i, i ≤ n → (vpre (fun t => gv V t.toNat) ts i).length = n) := fun i hi => by rw [vpre_length _ _ _ (by omega), hN']
  go_enter Try.func34, Try.ntmps34
  go_wp2_with fail
  have hb0 : Below w.heap.size w (((w.alloc (.cells #[.int .i64 hd, .slice A n c, .int .i64 cost, .int .i64 l0, .int .i64 l1] 43)).alloc (.cells #[.int .i64 0, .int .i64 0] 23)).alloc (.cells (vls (List.replicate n ⟨0, 0⟩)).toArray 23)) := (((Below.refl _ _).alloc (Nat.le_refl _) _).alloc (by simp) _).alloc (by simp; omega) _
  have K0 : Blk (((w.alloc (.cells #[.int .i64 hd, .slice A n c, .int .i64 cost, .int .i64 l0, .int .i64 l1] 43)).alloc (.cells #[.int .i64 0, .int .i64 0] 23)).alloc (.cells (vls (List.replicate n ⟨0, 0⟩)).toArray 23)) w.heap.size 43 #[.int .i64 hd, .slice A n c, .int .i64 cost, .int .i64 l0, .int .i64 l1] := ((Blk.new' w _ _ rfl).alloc _).alloc _
  have K1 : Blk (((w.alloc (.cells #[.int .i64 hd, .slice A n c, .int .i64 cost, .int .i64 l0, .int .i64 l1] 43)).alloc (.cells #[.int .i64 0, .int .i64 0] 23)).alloc (.cells (vls (List.replicate n ⟨0, 0⟩)).toArray 23)) (w.heap.size + 1) 23 #[.int .i64 0, .int .i64 0] := (Blk.new' _ _ _ (by simp)).alloc _
  have K2 : Blk (((w.alloc (.cells #[.int .i64 hd, .slice A n c, .int .i64 cost, .int .i64 l0, .int .i64 l1] 43)).alloc (.cells #[.int .i64 0, .int .i64 0] 23)).alloc (.cells (vls (List.replicate n ⟨0, 0⟩)).toArray 23)) (w.heap.size + 2) 23 (vls (vpre (fun t => gv V t.toNat) ts 0)).toArray := by
    have e : vpre (fun t => gv V t.toNat) ts 0 = List.replicate n ⟨0, 0⟩ := by simp [vpre, hN']
    rw [e]
    exact Blk.new' _ _ _ (by simp)
  clear hs hmk
  go_loopw [15] (fun a wr => ∃ i : Nat, i ≤ n ∧ a = .int .i64 i ∧ Hid (Blk wr w.heap.size 43 #[.int .i64 hd, .slice A n c, .int .i64 cost, .int .i64 l0, .int .i64 l1]) ∧ Hid (Blk wr (w.heap.size + 1) 23 #[.int .i64 0, .int .i64 0]) ∧ Hid (Blk wr (w.heap.size + 2) 23 (vls (vpre (fun t => gv V t.toNat) ts i)).toArray) ∧ Below w.heap.size w wr) (fun a _ => n - (intOf a).toNat)
  case atStart => exact ⟨0, Nat.zero_le _, rfl, K0, K1, K2, hb0⟩
  case round =>
    obtain ⟨i, hi, rfl, HK0, HK1, HK2, hbr⟩ := hrel
    clear K0 K1 K2 hb0
    have hsr := hbr.size
    have hsc : wr.cell? ⟨sb, 2, none⟩ = some (.slice (some ⟨gg, 0, none⟩) M c') := (hbr.cell (p := ⟨sb, 2, none⟩) hsl).trans hs1
    by_cases hlt : i < n
    case pos =>
      have hltD : decide (i < n) = true := by simp [hlt]
      obtain ⟨b, off, rfl, hb, p0⟩ := (HR.out.below hbr).int_at hlt
      have hti : ts[i]? = some ts[i] := List.getElem?_eq_getElem (by omega)
      obtain ⟨t, ht⟩ : ∃ t, ts[i] = t := ⟨_, rfl⟩
      rw [ht] at hti
      rw [hti] at p0
      simp only [Option.getD_some] at p0
      obtain ⟨t0, t1⟩ := HT.out t (List.mem_of_getElem? hti)
      obtain ⟨j, rfl⟩ := Int.eq_ofNat_of_zero_le t0
      have hj : j < M := by omega
      have hvj : V[j]? = some (gv V j) := by
        have : j < V.length := by omega
        simp [gv, this]
      obtain ⟨v, hv⟩ : ∃ v, gv V j = v := ⟨_, rfl⟩
      rw [hv] at hvj
      obtain ⟨q0, q1⟩ := (HV.out.below hbr HV.out.lt).vl_at hvj
      obtain ⟨pv, hpv⟩ : ∃ pv, (vpre (fun t => gv V t.toNat) ts i)[i]? = some pv := ⟨_, List.getElem?_eq_getElem (by rw [hlen.out i hi]; exact hlt)⟩
      obtain ⟨r0, r1⟩ := HK2.out.vl_at hpv
      have z0 := HK2.out.frozen (i * 2)
      have z1 := HK2.out.frozen (i * 2 + 1)
      go_wp2_with fail
      go_roundw
      case rel =>
        refine ⟨i + 1, by omega, by go_num, ?_, ?_, ?_, ?_⟩
        · exact (HK0.out.far (p := ⟨w.heap.size + 2, i * 2, none⟩) (by simp) _).far (p := ⟨w.heap.size + 2, i * 2 + 1, none⟩) (by simp) _
        · exact (HK1.out.far (p := ⟨w.heap.size + 2, i * 2, none⟩) (by simp) _).far (p := ⟨w.heap.size + 2, i * 2 + 1, none⟩) (by simp) _
        · have h2 := HK2.out.vl_put (k := i) (by rw [hlen.out i hi]; exact hlt) v
          have e := vpre_set (f := fun t => gv V t.toNat) hti
          simp only [Int.toNat_natCast, hv] at e
          rw [e] at h2
          exact h2
        · exact (hbr.setCell (p := ⟨w.heap.size + 2, i * 2, none⟩) (by simp) _).setCell (p := ⟨w.heap.size + 2, i * 2 + 1, none⟩) (by simp) _
      case measure => simp [intOf]; omega
    case neg =>
      have hltD : decide (i < n) = false := by simp [hlt]
      obtain rfl : i = n := by omega
      have hee : vpre (fun t => gv V t.toNat) ts i = tlv (gv V) ts := by rw [← hN', vpre_end]; rfl
      rw [hee] at HK2
      have hll : (tlv (gv V) ts).length = i := by simp [tlv, hN']
      have c2 := HK0.out.cell 2
      have x0 := HK1.out.cell 0
      have x1 := HK1.out.cell 1
      simp at c2 x0 x1
      have hRV : Hid (Reads wr wr.heap.size 2 (some ⟨w.heap.size + 2, 0, none⟩) i (vls (tlv (gv V) ts))) := Reads.of_blk HK2.out HK2.out.lt (by simp) (by rw [vls_length, hll])
      have hoo : Hid (∀ v ∈ tlv (gv V) ts, Ordy v) := fun v hv => by
        obtain ⟨t, ht, rfl⟩ := List.mem_map.1 hv
        obtain ⟨t0, t1⟩ := HT.out t ht
        have : t.toNat < V.length := by omega
        simp only [gv, List.getElem?_eq_getElem this, Option.getD_some]
        exact HO.out _ (List.getElem_mem this)
      go_wp2_with fail
      refine (combine_any cost _ i i wr.heap.size _ wr hRV.out (Nat.le_refl _) hc hoo.out (by omega)).mono ?_
      rintro e w2 ⟨rfl, hb2⟩
      have K1' := HK1.out.below hb2 HK1.out.lt
      have x0 := K1'.cell 0
      have x1 := K1'.cell 1
      have y0 := K1'.frozen 0
      have y1 := K1'.frozen 1
      simp at x0 x1
      go_wp2_with fail
      have r1 := K1'.set2 (.int .i64 (comb cost (tlv (gv V) ts)).c) (.int .i64 (comb cost (tlv (gv V) ts)).s)
      refine bodyPost_ret (results_val rfl rfl (r1.cell 0) (r1.cell 1)) rfl ?_
      exact ⟨rfl, ((hbr.trans (hb2.mono hsr)).setCell (p := ⟨w.heap.size + 1, 0, none⟩) (by simp) _).setCell (p := ⟨w.heap.size + 1, 1, none⟩) (by simp) _⟩
end Go.Proofs.Ytkeiakmfnammbaa
