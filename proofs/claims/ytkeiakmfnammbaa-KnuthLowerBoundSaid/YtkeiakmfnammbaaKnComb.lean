/- Less and Combine, the program's and the reference's. -/
import Derived.Test.YtkeiakmfnammbaaKnRow
namespace Go.Proofs.Ytkeiakmfnammbaa
open Go.RowKit

theorem rless_any (c s c' s' : Int) (w : World) : Calls Try.prog 14 #[.agg #[.int .i64 c, .int .i64 s], .agg #[.int .i64 c', .int .i64 s']] w fun e w' => e = .returned (.bool (vlt c s c' s')) ∧ Below w.heap.size w w' := by
  have hv : vlt c s c' s' = (decide (c < c') || (c == c' && decide (s < s'))) := rfl
  rw [hv]
  clear hv
  by_cases h1 : c < c'
  · have d1 : decide (c < c') = true := by simp [h1]
    go_enter Try.func14, Try.ntmps14
    go_wp2_with fail
    go_ret
    exact ⟨by simp [h1], ((Below.refl _ _).alloc (Nat.le_refl _) _).alloc (by simp) _⟩
  · have d1 : decide (c < c') = false := by simp [h1]
    by_cases h2 : c = c'
    · have d2 : (c == c') = true := by simp [h2]
      clear h1
      go_enter Try.func14, Try.ntmps14
      go_wp2_with fail
      go_ret
      exact ⟨by simp [h2], ((Below.refl _ _).alloc (Nat.le_refl _) _).alloc (by simp) _⟩
    · have d2 : (c == c') = false := by simp [h2]
      clear h1 h2
      go_enter Try.func14, Try.ntmps14
      go_wp2_with fail
      go_ret
      exact ⟨by simp [d1, d2], ((Below.refl _ _).alloc (Nat.le_refl _) _).alloc (by simp) _⟩

theorem results_val {fn : Func} {p : Tmp} (h : fn.results = #[.cell p 23]) {tmps : Array Value} {b o : Nat} (hp : tmps.getD p undef = .pointer (some ⟨b, o, none⟩)) {w : World} {x y : Int}
    (h0 : w.cell? ⟨b, o, none⟩ = some (.int .i64 x)) (h1 : w.cell? ⟨b, o + 1, none⟩ = some (.int .i64 y)) : (results fn tmps).run Try.prog w = .ok (.agg #[.int .i64 x, .int .i64 y]) w := by
  rw [results_cell h tmps _ hp]
  simp [go_sem, h0, h1]
theorem Blk.set2 {w : World} {g : Nat} {t : TypeId} {a0 a1 : Value} (h : Blk w g t #[a0, a1]) (x0 x1 : Value) : Blk ((w.setCell ⟨g, 0, none⟩ x0).setCell ⟨g, 1, none⟩ x1) g t #[x0, x1] := by
  have := (h.set_ 0 x0).set_ 1 x1
  simpa using this
theorem fold_take {l : List Vl} {i : Nat} {o v : Vl} (h : l[i]? = some v) : (l.take (i + 1)).foldl vstep o = vstep ((l.take i).foldl vstep o) v := by
  rw [List.take_add_one, h]
  simp
theorem vfin_c (o : Vl) : (decide (o.c = 1099511627776) = true → vfin o = vtop) ∧ (decide (o.c = 1099511627776) = false → vfin o = o) := by
  unfold vfin
  constructor
  · intro h; rw [if_pos (by simpa using h)]
  · intro h; rw [if_neg (by simpa using h)]

set_option maxRecDepth 100000 in
theorem combine_any (cost : Int) (A : Option Addr) (n c B : Nat) (l : List Vl) (w : World) (hl : Reads w B 2 A n (vls l)) (hB : B ≤ w.heap.size) (hc : 0 ≤ cost) (ho : ∀ v ∈ l, Ordy v) (hnb : n ≤ 1000000000) :
    Calls Try.prog 17 #[.int .i64 cost, .slice A n c] w fun e w' => e = .returned (.agg #[.int .i64 (comb cost l).c, .int .i64 (comb cost l).s]) ∧ Below w.heap.size w w' := by
  have HL := Lib.hid (hl.more hB)
  have hln := hl.len_vls
  have HO := Lib.hid ho
  clear hl ho
  go_enter Try.func17, Try.ntmps17
  go_wp2_with fail
  have K0 : Blk (((w.alloc (.cells #[.int .i64 0, .int .i64 0] 23)).alloc (.cells #[.int .i64 (min cost 1099511627776), .int .i64 1] 23))) w.heap.size 23 #[.int .i64 0, .int .i64 0] := (Blk.new' w _ _ rfl).alloc _
  have K1 : Blk (((w.alloc (.cells #[.int .i64 0, .int .i64 0] 23)).alloc (.cells #[.int .i64 (min cost 1099511627776), .int .i64 1] 23))) (w.heap.size + 1) 23 #[.int .i64 (min cost 1099511627776), .int .i64 1] := Blk.new' _ _ _ (by simp)
  have hb : Below w.heap.size w (((w.alloc (.cells #[.int .i64 0, .int .i64 0] 23)).alloc (.cells #[.int .i64 (min cost 1099511627776), .int .i64 1] 23))) := ((Below.refl _ _).alloc (Nat.le_refl _) _).alloc (by simp) _
  go_loopw [13] (fun a wr => ∃ i : Nat, i ≤ n ∧ a = .int .i64 i ∧ Hid (Blk wr w.heap.size 23 #[.int .i64 0, .int .i64 0]) ∧ Hid (Blk wr (w.heap.size + 1) 23 #[.int .i64 ((l.take i).foldl vstep ⟨min cost 1099511627776, 1⟩).c, .int .i64 ((l.take i).foldl vstep ⟨min cost 1099511627776, 1⟩).s]) ∧ Below w.heap.size w wr) (fun a _ => n - (intOf a).toNat)
  case atStart => exact ⟨0, Nat.zero_le _, rfl, K0, K1, hb⟩
  case round =>
    obtain ⟨i, hi, rfl, HK0, HK1, hbr⟩ := hrel
    clear K0 K1 hb
    have hsr := hbr.size
    obtain ⟨o, ho⟩ : ∃ o, (l.take i).foldl vstep ⟨min cost 1099511627776, 1⟩ = o := ⟨_, rfl⟩
    have hoo : Ordy o := by rw [← ho]; exact fold_ord (start_ord hc) (fun v hv => HO.out v (List.mem_of_mem_take hv))
    rw [ho] at HK1
    have c0 := HK1.out.cell 0
    have c1 := HK1.out.cell 1
    have z0 := HK1.out.frozen 0
    have z1 := HK1.out.frozen 1
    have y0 := HK0.out.frozen 0
    have y1 := HK0.out.frozen 1
    have x0 := HK0.out.cell 0
    have x1 := HK0.out.cell 1
    simp at x0 x1
    have hk1 := HK1.out.lt
    simp at c0 c1
    by_cases hlt : i < n
    case pos =>
      have hltD : decide (i < n) = true := by simp [hlt]
      obtain ⟨b, off, v, rfl, hb, hv, p0, p1⟩ := (HL.out.below hbr).vl_at hlt
      have hvo := HO.out v (List.mem_of_getElem? hv)
      have hw1 : IntKind.i64.wrap (o.c + v.c) = o.c + v.c := by unfold Ordy at hoo hvo; exact IntWalk.i64_in _ (by omega)
      have hw2 : IntKind.i64.wrap (o.s + v.s) = o.s + v.s := by unfold Ordy at hoo hvo; exact IntWalk.i64_in _ (by omega)
      have hbl : b < wr.heap.size := by omega
      go_wp2_with fail
      go_roundw
      case rel =>
        refine ⟨i + 1, by omega, by go_num, ?_, ?_, ?_⟩
        · exact ((HK0.out.far (p := ⟨w.heap.size + 1, 0, none⟩) (by simp) _).far (p := ⟨w.heap.size + 1, 1, none⟩) (by simp) _).alloc _
        · rw [fold_take hv, ho]
          have h2 : Blk ((wr.setCell ⟨w.heap.size + 1, 0, none⟩ (.int .i64 (min (o.c + v.c) 1099511627776))).setCell ⟨w.heap.size + 1, 1, none⟩ (.int .i64 (min (o.s + v.s) 1099511627776))) (w.heap.size + 1) 23 #[.int .i64 (vstep o v).c, .int .i64 (vstep o v).s] := by
            have := (HK1.out.set_ 0 (.int .i64 (min (o.c + v.c) 1099511627776))).set_ 1 (.int .i64 (min (o.s + v.s) 1099511627776))
            simpa [vstep] using this
          exact h2.alloc _
        · exact ((hbr.setCell (p := ⟨w.heap.size + 1, 0, none⟩) (by simp) _).setCell (p := ⟨w.heap.size + 1, 1, none⟩) (by simp) _).alloc (by simpa using hsr) _
      case measure => simp [intOf]; omega
    case neg =>
      have hltD : decide (i < n) = false := by simp [hlt]
      obtain rfl : i = n := by omega
      have htl : l.take i = l := by rw [← hln]; exact List.take_length
      rw [htl] at ho
      have hcm : comb cost l = vfin o := by unfold comb; rw [ho]
      obtain ⟨f1, f2⟩ := vfin_c o
      cases hd : decide (o.c = 1099511627776)
      · have hd' : (o.c == 1099511627776) = false := by simpa using hd
        go_wp2_with fail
        have r1 := HK0.out.set2 (.int .i64 o.c) (.int .i64 o.s)
        refine bodyPost_ret (results_val rfl rfl (r1.cell 0) (r1.cell 1)) rfl ?_
        exact ⟨by rw [hcm, f2 hd], (hbr.setCell (by show w.heap.size ≤ w.heap.size; omega) _).setCell (by show w.heap.size ≤ w.heap.size; omega) _⟩
      · have hd' : (o.c == 1099511627776) = true := by simpa using hd
        go_wp2_with fail
        have r1 := HK0.out.set2 (.int .i64 1099511627776) (.int .i64 0)
        refine bodyPost_ret (results_val rfl rfl (r1.cell 0) (r1.cell 1)) rfl ?_
        exact ⟨by rw [hcm, f1 hd]; rfl, (hbr.setCell (by show w.heap.size ≤ w.heap.size; omega) _).setCell (by show w.heap.size ≤ w.heap.size; omega) _⟩

set_option maxRecDepth 100000 in
theorem rcombine_any (cost : Int) (A : Option Addr) (n c B : Nat) (l : List Vl) (w : World) (hl : Reads w B 2 A n (vls l)) (hB : B ≤ w.heap.size) (hc : 0 ≤ cost) (hci : cost ≤ 1099511627776) (ho : ∀ v ∈ l, Ordy v) (hnb : n ≤ 1000000000) :
    Calls Try.prog 18 #[.int .i64 cost, .slice A n c] w fun e w' => e = .returned (.agg #[.int .i64 (comb cost l).c, .int .i64 (comb cost l).s]) ∧ Below w.heap.size w w' := by
  have HL := Lib.hid (hl.more hB)
  have hln := hl.len_vls
  have HO := Lib.hid ho
  have hmin : min cost 1099511627776 = cost := by omega
  clear hl ho
  go_enter Try.func18, Try.ntmps18
  go_wp2_with fail
  have K0 : Blk (w.alloc (.cells #[.int .i64 0, .int .i64 0] 23)) w.heap.size 23 #[.int .i64 0, .int .i64 0] := Blk.new' w _ _ rfl
  have hb : Below w.heap.size w (w.alloc (.cells #[.int .i64 0, .int .i64 0] 23)) := (Below.refl _ _).alloc (Nat.le_refl _) _
  go_loopw [5, 6, 7] (fun x5 x6 a wr => ∃ i : Nat, i ≤ n ∧ a = .int .i64 i ∧ x5 = .int .i64 ((l.take i).foldl vstep ⟨min cost 1099511627776, 1⟩).c ∧ x6 = .int .i64 ((l.take i).foldl vstep ⟨min cost 1099511627776, 1⟩).s ∧ Hid (Blk wr w.heap.size 23 #[.int .i64 0, .int .i64 0]) ∧ Below w.heap.size w wr) (fun _ _ a _ => n - (intOf a).toNat)
  case atStart => exact ⟨0, Nat.zero_le _, rfl, by simp [hmin], rfl, K0, hb⟩
  case round =>
    obtain ⟨i, hi, rfl, rfl, rfl, HK0, hbr⟩ := hrel
    clear K0 hb
    have hsr := hbr.size
    obtain ⟨o, ho⟩ : ∃ o, (l.take i).foldl vstep ⟨min cost 1099511627776, 1⟩ = o := ⟨_, rfl⟩
    have hoo : Ordy o := by rw [← ho]; exact fold_ord (start_ord hc) (fun v hv => HO.out v (List.mem_of_mem_take hv))
    rw [ho]
    have y0 := HK0.out.frozen 0
    have y1 := HK0.out.frozen 1
    have x0 := HK0.out.cell 0
    have x1 := HK0.out.cell 1
    simp at x0 x1
    by_cases hlt : i < n
    case pos =>
      have hltD : decide (i < n) = true := by simp [hlt]
      obtain ⟨b, off, v, rfl, hb, hv, p0, p1⟩ := (HL.out.below hbr).vl_at hlt
      have hvo := HO.out v (List.mem_of_getElem? hv)
      have hw1 : IntKind.i64.wrap (o.c + v.c) = o.c + v.c := by unfold Ordy at hoo hvo; exact IntWalk.i64_in _ (by omega)
      have hw2 : IntKind.i64.wrap (o.s + v.s) = o.s + v.s := by unfold Ordy at hoo hvo; exact IntWalk.i64_in _ (by omega)
      go_wp2_with fail
      go_quiet (fail)
      go_wp2_with fail
      go_roundw
      case rel =>
        refine ⟨i + 1, by omega, by go_num, ?_, ?_, ?_, ?_⟩
        · rw [fold_take hv, ho]; rfl
        · rw [fold_take hv, ho]; rfl
        · exact HK0.out.drewN _
        · exact below_drewN hbr _
      case measure => simp [intOf]; omega
    case neg =>
      have hltD : decide (i < n) = false := by simp [hlt]
      obtain rfl : i = n := by omega
      have htl : l.take i = l := by rw [← hln]; exact List.take_length
      rw [htl] at ho
      have hcm : comb cost l = vfin o := by unfold comb; rw [ho]
      obtain ⟨f1, f2⟩ := vfin_c o
      have hle := hoo.2.1
      cases hd : decide (o.c = 1099511627776)
      · have hd' : decide ((1099511627776 : Int) ≤ o.c) = false := by have : ¬ o.c = 1099511627776 := by simpa using hd
                                                                      simp; omega
        go_wp2_with fail
        have r1 := HK0.out.set2 (.int .i64 o.c) (.int .i64 o.s)
        refine bodyPost_ret (results_val rfl rfl (r1.cell 0) (r1.cell 1)) rfl ?_
        exact ⟨by rw [hcm, f2 hd], (hbr.setCell (by show w.heap.size ≤ w.heap.size; omega) _).setCell (by show w.heap.size ≤ w.heap.size; omega) _⟩
      · have hd' : decide ((1099511627776 : Int) ≤ o.c) = true := by have : o.c = 1099511627776 := by simpa using hd
                                                                     simp; omega
        go_wp2_with fail
        have r1 := HK0.out.set2 (.int .i64 1099511627776) (.int .i64 0)
        refine bodyPost_ret (results_val rfl rfl (r1.cell 0) (r1.cell 1)) rfl ?_
        exact ⟨by rw [hcm, f1 hd]; rfl, (hbr.setCell (by show w.heap.size ≤ w.heap.size; omega) _).setCell (by show w.heap.size ≤ w.heap.size; omega) _⟩
end Go.Proofs.Ytkeiakmfnammbaa
