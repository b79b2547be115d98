/- Values, hyperedges, the solution of their inequalities; the solver in memory. -/
import Derived.Test.YtbalhkbpmahkgaaOMa
import Derived.Test.YtbalhkbpmahkgaaOMb
import Derived.Lib.MinMax
import Derived.Deep.OwnRows
import Derived.Deep.DeepCutAuto
import Derived.Deep.AppendLies
namespace Go.Proofs.Ytbalhkbpmahkgaa
open Go.RowKit

def Vl.cells (v : Vl) : List Value := [.int .i64 v.c, .int .i64 v.s]
def vls (l : List Vl) : List Value := l.flatMap Vl.cells
theorem vls_length (l : List Vl) : (vls l).length = l.length * 2 := by
  induction l with
  | nil => rfl
  | cons t l ih => simp only [vls, List.flatMap_cons, List.length_append] at *; rw [ih]; simp [Vl.cells]; omega
theorem vls_append (l m : List Vl) : vls (l ++ m) = vls l ++ vls m := by simp [vls]
theorem vls_at : ∀ (l : List Vl) (k : Nat) (t : Vl) (j : Nat), l[k]? = some t → j < 2 → (vls l)[k * 2 + j]? = t.cells[j]?
  | [], _, _, _, h, _ => by simp at h
  | x :: l, 0, t, j, h, hj => by
    simp at h
    subst h
    simp only [vls, List.flatMap_cons]
    rw [List.getElem?_append_left (by simp [Vl.cells]; omega)]
    simp
  | x :: l, k + 1, t, j, h, hj => by
    simp at h
    have := vls_at l k t j h hj
    simp only [vls, List.flatMap_cons] at *
    rw [List.getElem?_append_right (by simp [Vl.cells]; omega)]
    rw [← this]
    congr 1
    simp [Vl.cells]; omega
theorem vls_one {l : List Vl} {u : Value} (h : u ∈ vls l) : u.oneCell' = true := by
  simp only [vls, List.mem_flatMap] at h
  obtain ⟨t, _, h⟩ := h
  simp [Vl.cells] at h
  rcases h with rfl | rfl <;> rfl
theorem vls_set : ∀ (l : List Vl) (i : Nat) (t : Vl), i < l.length → vls (l.set i t) = ((vls l).set (i * 2) (.int .i64 t.c)).set (i * 2 + 1) (.int .i64 t.s)
  | [], _, _, h => absurd h (Nat.not_lt_zero _)
  | x :: l, 0, t, _ => by simp [vls, Vl.cells]
  | x :: l, i + 1, t, h => by
    have ih := vls_set l i t (by simpa using h)
    have e1 : vls (x :: l) = x.cells ++ vls l := by simp [vls]
    have e2 : vls ((x :: l).set (i + 1) t) = x.cells ++ vls (l.set i t) := by simp [vls]
    rw [e1, e2, ih]
    have hx : x.cells.length = 2 := rfl
    rw [show (i + 1) * 2 = x.cells.length + i * 2 by rw [hx]; omega, show x.cells.length + i * 2 + 1 = x.cells.length + (i * 2 + 1) by omega]
    rw [List.set_append_right _ _ (by omega), List.set_append_right _ _ (by omega)]
    simp
theorem Blk.vl_at {w : World} {g : Nat} {t : TypeId} {l : List Vl} (h : Blk w g t (vls l).toArray) {k : Nat} {v : Vl} (hk : l[k]? = some v) : w.cell? ⟨g, k * 2, none⟩ = some (.int .i64 v.c) ∧ w.cell? ⟨g, k * 2 + 1, none⟩ = some (.int .i64 v.s) := by
  refine ⟨?_, ?_⟩
  · rw [h.cell]
    have := vls_at l k v 0 hk (by omega)
    simpa [Vl.cells] using this
  · rw [h.cell]
    have := vls_at l k v 1 hk (by omega)
    simpa [Vl.cells] using this
theorem Blk.vl_put {w : World} {g : Nat} {t : TypeId} {l : List Vl} (h : Blk w g t (vls l).toArray) {k : Nat} (hk : k < l.length) (v : Vl) : Blk ((w.setCell ⟨g, k * 2, none⟩ (.int .i64 v.c)).setCell ⟨g, k * 2 + 1, none⟩ (.int .i64 v.s)) g t (vls (l.set k v)).toArray := by
  have := (h.set_ (k * 2) (.int .i64 v.c)).set_ (k * 2 + 1) (.int .i64 v.s)
  rw [vls_set l k v hk]
  simpa using this
section
variable {w : World} {B n : Nat} {A : Option Addr} {l : List Vl}
theorem Reads.len_vls (h : Reads w B 2 A n (vls l)) : l.length = n := by have := h.1; rw [vls_length] at this; omega
theorem Reads.vl_at (h : Reads w B 2 A n (vls l)) {k : Nat} (hk : k < n) :
    ∃ b off v, A = some ⟨b, off, none⟩ ∧ b < B ∧ l[k]? = some v ∧ w.cell? ⟨b, off + k * 2, none⟩ = some (.int .i64 v.c) ∧ w.cell? ⟨b, off + k * 2 + 1, none⟩ = some (.int .i64 v.s) := by
  obtain ⟨b, off, e, hb, hc⟩ := h.2 (by omega)
  have hl : k < l.length := by rw [h.len_vls]; exact hk
  have ht := List.getElem?_eq_getElem hl
  refine ⟨b, off, l[k], e, hb, ht, ?_, ?_⟩
  · have := hc (k * 2 + 0) (.int .i64 l[k].c) (by rw [vls_at l k _ 0 ht (by omega)]; rfl)
    simpa using this
  · have := hc (k * 2 + 1) (.int .i64 l[k].s) (by rw [vls_at l k _ 1 ht (by omega)]; rfl)
    simpa [Nat.add_assoc] using this
end
end Go.Proofs.Ytbalhkbpmahkgaa

namespace Go.Proofs.Ytbalhkbpmahkgaa
open Go.RowKit

theorem rless_any (c s c' s' : Int) (w : World) : Calls Try.prog 38 #[.agg #[.int .i64 c, .int .i64 s], .agg #[.int .i64 c', .int .i64 s']] w fun e w' => e = .returned (.bool (vlt c s c' s')) ∧ Below w.heap.size w w' := by
  have hv : vlt c s c' s' = (decide (c < c') || (c == c' && decide (s < s'))) := rfl
  rw [hv]
  clear hv
  by_cases h1 : c < c'
  · have d1 : decide (c < c') = true := by simp [h1]
    go_enter Try.func38, Try.ntmps38
    go_wp2_with fail
    go_ret
    exact ⟨by simp [h1], ((Below.refl _ _).alloc (Nat.le_refl _) _).alloc (by simp) _⟩
  · have d1 : decide (c < c') = false := by simp [h1]
    by_cases h2 : c = c'
    · have d2 : (c == c') = true := by simp [h2]
      clear h1
      go_enter Try.func38, Try.ntmps38
      go_wp2_with fail
      go_ret
      exact ⟨by simp [h2], ((Below.refl _ _).alloc (Nat.le_refl _) _).alloc (by simp) _⟩
    · have d2 : (c == c') = false := by simp [h2]
      clear h1 h2
      go_enter Try.func38, Try.ntmps38
      go_wp2_with fail
      go_ret
      exact ⟨by simp [d1, d2], ((Below.refl _ _).alloc (Nat.le_refl _) _).alloc (by simp) _⟩

theorem results_val {fn : Func} {p : Tmp} (h : fn.results = #[.cell p 38]) {tmps : Array Value} {b o : Nat} (hp : tmps.getD p undef = .pointer (some ⟨b, o, none⟩)) {w : World} {x y : Int}
    (h0 : w.cell? ⟨b, o, none⟩ = some (.int .i64 x)) (h1 : w.cell? ⟨b, o + 1, none⟩ = some (.int .i64 y)) : (results fn tmps).run Try.prog w = .ok (.agg #[.int .i64 x, .int .i64 y]) w := by
  rw [results_cell h tmps _ hp]
  simp [go_sem, h0, h1]
theorem Blk.set2 {w : World} {g : Nat} {t : TypeId} {a0 a1 : Value} (h : Blk w g t #[a0, a1]) (x0 x1 : Value) : Blk ((w.setCell ⟨g, 0, none⟩ x0).setCell ⟨g, 1, none⟩ x1) g t #[x0, x1] := by
  have := (h.set_ 0 x0).set_ 1 x1
  simpa using this
theorem fold_take {l : List Vl} {i : Nat} {o v : Vl} (h : l[i]? = some v) : (l.take (i + 1)).foldl vstep o = vstep ((l.take i).foldl vstep o) v := by
  rw [List.take_add_one, h]
  simp
theorem vfin_c (o : Vl) : (decide (o.c = 1099511627776) = true → vfin o = vtop) ∧ (decide (o.c = 1099511627776) = false → vfin o = o) := by
  unfold vfin
  constructor
  · intro h; rw [if_pos (by simpa using h)]
  · intro h; rw [if_neg (by simpa using h)]

set_option maxRecDepth 100000 in
theorem combine_any (cost : Int) (A : Option Addr) (n c B : Nat) (l : List Vl) (w : World) (hl : Reads w B 2 A n (vls l)) (hB : B ≤ w.heap.size) (hc : 0 ≤ cost) (ho : ∀ v ∈ l, Ordy v) (hnb : n ≤ 1000000000) :
    Calls Try.prog 59 #[.int .i64 cost, .slice A n c] w fun e w' => e = .returned (.agg #[.int .i64 (comb cost l).c, .int .i64 (comb cost l).s]) ∧ Below w.heap.size w w' := by
  have HL := Lib.hid (hl.more hB)
  have hln := hl.len_vls
  have HO := Lib.hid ho
  clear hl ho
  go_enter Try.func59, Try.ntmps59
  go_wp2_with fail
  have K0 : Blk (((w.alloc (.cells #[.int .i64 0, .int .i64 0] 38)).alloc (.cells #[.int .i64 (min cost 1099511627776), .int .i64 1] 38))) w.heap.size 38 #[.int .i64 0, .int .i64 0] := (Blk.new' w _ _ rfl).alloc _
  have K1 : Blk (((w.alloc (.cells #[.int .i64 0, .int .i64 0] 38)).alloc (.cells #[.int .i64 (min cost 1099511627776), .int .i64 1] 38))) (w.heap.size + 1) 38 #[.int .i64 (min cost 1099511627776), .int .i64 1] := Blk.new' _ _ _ (by simp)
  have hb : Below w.heap.size w (((w.alloc (.cells #[.int .i64 0, .int .i64 0] 38)).alloc (.cells #[.int .i64 (min cost 1099511627776), .int .i64 1] 38))) := ((Below.refl _ _).alloc (Nat.le_refl _) _).alloc (by simp) _
  go_loopw [13] (fun a wr => ∃ i : Nat, i ≤ n ∧ a = .int .i64 i ∧ Hid (Blk wr w.heap.size 38 #[.int .i64 0, .int .i64 0]) ∧ Hid (Blk wr (w.heap.size + 1) 38 #[.int .i64 ((l.take i).foldl vstep ⟨min cost 1099511627776, 1⟩).c, .int .i64 ((l.take i).foldl vstep ⟨min cost 1099511627776, 1⟩).s]) ∧ Below w.heap.size w wr) (fun a _ => n - (intOf a).toNat)
  case atStart => exact ⟨0, Nat.zero_le _, rfl, K0, K1, hb⟩
  case round =>
    obtain ⟨i, hi, rfl, HK0, HK1, hbr⟩ := hrel
    clear K0 K1 hb
    have hsr := hbr.size
    obtain ⟨o, ho⟩ : ∃ o, (l.take i).foldl vstep ⟨min cost 1099511627776, 1⟩ = o := ⟨_, rfl⟩
    have hoo : Ordy o := by rw [← ho]; exact fold_ord (start_ord hc) (fun v hv => HO.out v (List.mem_of_mem_take hv))
    rw [ho] at HK1
    have c0 := HK1.out.cell 0
    have c1 := HK1.out.cell 1
    have z0 := HK1.out.frozen 0
    have z1 := HK1.out.frozen 1
    have y0 := HK0.out.frozen 0
    have y1 := HK0.out.frozen 1
    have x0 := HK0.out.cell 0
    have x1 := HK0.out.cell 1
    simp at x0 x1
    have hk1 := HK1.out.lt
    simp at c0 c1
    by_cases hlt : i < n
    case pos =>
      have hltD : decide (i < n) = true := by simp [hlt]
      obtain ⟨b, off, v, rfl, hb, hv, p0, p1⟩ := (HL.out.below hbr).vl_at hlt
      have hvo := HO.out v (List.mem_of_getElem? hv)
      have hw1 : IntKind.i64.wrap (o.c + v.c) = o.c + v.c := by unfold Ordy at hoo hvo; exact IntWalk.i64_in _ (by omega)
      have hw2 : IntKind.i64.wrap (o.s + v.s) = o.s + v.s := by unfold Ordy at hoo hvo; exact IntWalk.i64_in _ (by omega)
      have hbl : b < wr.heap.size := by omega
      go_wp2_with fail
      go_roundw
      case rel =>
        refine ⟨i + 1, by omega, by go_num, ?_, ?_, ?_⟩
        · exact ((HK0.out.far (p := ⟨w.heap.size + 1, 0, none⟩) (by simp) _).far (p := ⟨w.heap.size + 1, 1, none⟩) (by simp) _).alloc _
        · rw [fold_take hv, ho]
          have h2 : Blk ((wr.setCell ⟨w.heap.size + 1, 0, none⟩ (.int .i64 (min (o.c + v.c) 1099511627776))).setCell ⟨w.heap.size + 1, 1, none⟩ (.int .i64 (min (o.s + v.s) 1099511627776))) (w.heap.size + 1) 38 #[.int .i64 (vstep o v).c, .int .i64 (vstep o v).s] := by
            have := (HK1.out.set_ 0 (.int .i64 (min (o.c + v.c) 1099511627776))).set_ 1 (.int .i64 (min (o.s + v.s) 1099511627776))
            simpa [vstep] using this
          exact h2.alloc _
        · exact ((hbr.setCell (p := ⟨w.heap.size + 1, 0, none⟩) (by simp) _).setCell (p := ⟨w.heap.size + 1, 1, none⟩) (by simp) _).alloc (by simpa using hsr) _
      case measure => simp [intOf]; omega
    case neg =>
      have hltD : decide (i < n) = false := by simp [hlt]
      obtain rfl : i = n := by omega
      have htl : l.take i = l := by rw [← hln]; exact List.take_length
      rw [htl] at ho
      have hcm : comb cost l = vfin o := by unfold comb; rw [ho]
      obtain ⟨f1, f2⟩ := vfin_c o
      cases hd : decide (o.c = 1099511627776)
      · have hd' : (o.c == 1099511627776) = false := by simpa using hd
        go_wp2_with fail
        have r1 := HK0.out.set2 (.int .i64 o.c) (.int .i64 o.s)
        refine bodyPost_ret (results_val rfl rfl (r1.cell 0) (r1.cell 1)) rfl ?_
        exact ⟨by rw [hcm, f2 hd], (hbr.setCell (by show w.heap.size ≤ w.heap.size; omega) _).setCell (by show w.heap.size ≤ w.heap.size; omega) _⟩
      · have hd' : (o.c == 1099511627776) = true := by simpa using hd
        go_wp2_with fail
        have r1 := HK0.out.set2 (.int .i64 1099511627776) (.int .i64 0)
        refine bodyPost_ret (results_val rfl rfl (r1.cell 0) (r1.cell 1)) rfl ?_
        exact ⟨by rw [hcm, f1 hd]; rfl, (hbr.setCell (by show w.heap.size ≤ w.heap.size; omega) _).setCell (by show w.heap.size ≤ w.heap.size; omega) _⟩

set_option maxRecDepth 100000 in
theorem rcombine_any (cost : Int) (A : Option Addr) (n c B : Nat) (l : List Vl) (w : World) (hl : Reads w B 2 A n (vls l)) (hB : B ≤ w.heap.size) (hc : 0 ≤ cost) (hci : cost ≤ 1099511627776) (ho : ∀ v ∈ l, Ordy v) (hnb : n ≤ 1000000000) :
    Calls Try.prog 34 #[.int .i64 cost, .slice A n c] w fun e w' => e = .returned (.agg #[.int .i64 (comb cost l).c, .int .i64 (comb cost l).s]) ∧ Below w.heap.size w w' := by
  have HL := Lib.hid (hl.more hB)
  have hln := hl.len_vls
  have HO := Lib.hid ho
  have hmin : min cost 1099511627776 = cost := by omega
  clear hl ho
  go_enter Try.func34, Try.ntmps34
  go_wp2_with fail
  have K0 : Blk (w.alloc (.cells #[.int .i64 0, .int .i64 0] 38)) w.heap.size 38 #[.int .i64 0, .int .i64 0] := Blk.new' w _ _ rfl
  have hb : Below w.heap.size w (w.alloc (.cells #[.int .i64 0, .int .i64 0] 38)) := (Below.refl _ _).alloc (Nat.le_refl _) _
  go_loopw [5, 6, 7] (fun x5 x6 a wr => ∃ i : Nat, i ≤ n ∧ a = .int .i64 i ∧ x5 = .int .i64 ((l.take i).foldl vstep ⟨min cost 1099511627776, 1⟩).c ∧ x6 = .int .i64 ((l.take i).foldl vstep ⟨min cost 1099511627776, 1⟩).s ∧ Hid (Blk wr w.heap.size 38 #[.int .i64 0, .int .i64 0]) ∧ Below w.heap.size w wr) (fun _ _ a _ => n - (intOf a).toNat)
  case atStart => exact ⟨0, Nat.zero_le _, rfl, by simp [hmin], rfl, K0, hb⟩
  case round =>
    obtain ⟨i, hi, rfl, rfl, rfl, HK0, hbr⟩ := hrel
    clear K0 hb
    have hsr := hbr.size
    obtain ⟨o, ho⟩ : ∃ o, (l.take i).foldl vstep ⟨min cost 1099511627776, 1⟩ = o := ⟨_, rfl⟩
    have hoo : Ordy o := by rw [← ho]; exact fold_ord (start_ord hc) (fun v hv => HO.out v (List.mem_of_mem_take hv))
    rw [ho]
    have y0 := HK0.out.frozen 0
    have y1 := HK0.out.frozen 1
    have x0 := HK0.out.cell 0
    have x1 := HK0.out.cell 1
    simp at x0 x1
    by_cases hlt : i < n
    case pos =>
      have hltD : decide (i < n) = true := by simp [hlt]
      obtain ⟨b, off, v, rfl, hb, hv, p0, p1⟩ := (HL.out.below hbr).vl_at hlt
      have hvo := HO.out v (List.mem_of_getElem? hv)
      have hw1 : IntKind.i64.wrap (o.c + v.c) = o.c + v.c := by unfold Ordy at hoo hvo; exact IntWalk.i64_in _ (by omega)
      have hw2 : IntKind.i64.wrap (o.s + v.s) = o.s + v.s := by unfold Ordy at hoo hvo; exact IntWalk.i64_in _ (by omega)
      go_wp2_with fail
      go_quiet (fail)
      go_wp2_with fail
      go_roundw
      case rel =>
        refine ⟨i + 1, by omega, by go_num, ?_, ?_, ?_, ?_⟩
        · rw [fold_take hv, ho]; rfl
        · rw [fold_take hv, ho]; rfl
        · exact HK0.out.drewN _
        · exact below_drewN hbr _
      case measure => simp [intOf]; omega
    case neg =>
      have hltD : decide (i < n) = false := by simp [hlt]
      obtain rfl : i = n := by omega
      have htl : l.take i = l := by rw [← hln]; exact List.take_length
      rw [htl] at ho
      have hcm : comb cost l = vfin o := by unfold comb; rw [ho]
      obtain ⟨f1, f2⟩ := vfin_c o
      have hle := hoo.2.1
      cases hd : decide (o.c = 1099511627776)
      · have hd' : decide ((1099511627776 : Int) ≤ o.c) = false := by have : ¬ o.c = 1099511627776 := by simpa using hd
                                                                      simp; omega
        go_wp2_with fail
        have r1 := HK0.out.set2 (.int .i64 o.c) (.int .i64 o.s)
        refine bodyPost_ret (results_val rfl rfl (r1.cell 0) (r1.cell 1)) rfl ?_
        exact ⟨by rw [hcm, f2 hd], (hbr.setCell (by show w.heap.size ≤ w.heap.size; omega) _).setCell (by show w.heap.size ≤ w.heap.size; omega) _⟩
      · have hd' : decide ((1099511627776 : Int) ≤ o.c) = true := by have : o.c = 1099511627776 := by simpa using hd
                                                                     simp; omega
        go_wp2_with fail
        have r1 := HK0.out.set2 (.int .i64 1099511627776) (.int .i64 0)
        refine bodyPost_ret (results_val rfl rfl (r1.cell 0) (r1.cell 1)) rfl ?_
        exact ⟨by rw [hcm, f1 hd]; rfl, (hbr.setCell (by show w.heap.size ≤ w.heap.size; omega) _).setCell (by show w.heap.size ≤ w.heap.size; omega) _⟩
end Go.Proofs.Ytbalhkbpmahkgaa

namespace Go.Proofs.Ytbalhkbpmahkgaa
open Go.RowKit

structure Ed where
  hd : Int
  ts : List Int
  cost : Int
  l0 : Int
  l1 : Int
  A : Option Addr
  c : Nat
def Ed.cells (e : Ed) : List Value := [.int .i64 e.hd, .slice e.A e.ts.length e.c, .int .i64 e.cost, .int .i64 e.l0, .int .i64 e.l1]
def eds (l : List Ed) : List Value := l.flatMap Ed.cells
theorem eds_length (l : List Ed) : (eds l).length = l.length * 5 := by
  induction l with
  | nil => rfl
  | cons t l ih => simp only [eds, List.flatMap_cons, List.length_append] at *; rw [ih]; simp [Ed.cells]; omega
theorem eds_append (l m : List Ed) : eds (l ++ m) = eds l ++ eds m := by simp [eds]
theorem eds_at : ∀ (l : List Ed) (k : Nat) (t : Ed) (j : Nat), l[k]? = some t → j < 5 → (eds l)[k * 5 + j]? = t.cells[j]?
  | [], _, _, _, h, _ => by simp at h
  | x :: l, 0, t, j, h, hj => by
    simp at h
    subst h
    simp only [eds, List.flatMap_cons]
    rw [List.getElem?_append_left (by simp [Ed.cells]; omega)]
    simp
  | x :: l, k + 1, t, j, h, hj => by
    simp at h
    have := eds_at l k t j h hj
    simp only [eds, List.flatMap_cons] at *
    rw [List.getElem?_append_right (by simp [Ed.cells]; omega)]
    rw [← this]
    congr 1
    simp [Ed.cells]; omega
theorem eds_one {l : List Ed} {u : Value} (h : u ∈ eds l) : u.oneCell' = true := by
  simp only [eds, List.mem_flatMap] at h
  obtain ⟨t, _, h⟩ := h
  simp [Ed.cells] at h
  rcases h with rfl | rfl | rfl | rfl | rfl <;> rfl
/-- The hyperedges as they lie, with their tails. -/
def HG (w : World) (B : Nat) (E : Option Addr) (n : Nat) (es : List Ed) : Prop := Reads w B 5 E n (eds es) ∧ ∀ e ∈ es, Reads w B 1 e.A e.ts.length (ints e.ts)
section
variable {w w' : World} {B B' n : Nat} {E : Option Addr} {es : List Ed}
theorem HG.below (h : HG w B E n es) (hb : Below B w w') : HG w' B E n es := ⟨h.1.below hb, fun e he => (h.2 e he).below hb⟩
theorem HG.more (h : HG w B E n es) (hB : B ≤ B') : HG w B' E n es := ⟨h.1.more hB, fun e he => (h.2 e he).more hB⟩
theorem HG.keep (h : HG w B E n es) (hk : ∀ p : Addr, p.block < B → w'.cell? p = w.cell? p) : HG w' B E n es := ⟨h.1.keep hk, fun e he => (h.2 e he).keep hk⟩
theorem HG.len (h : HG w B E n es) : es.length = n := by have := h.1.1; rw [eds_length] at this; omega
theorem HG.at_ (h : HG w B E n es) {k : Nat} (hk : k < n) :
    ∃ b off e, E = some ⟨b, off, none⟩ ∧ b < B ∧ es[k]? = some e ∧ w.cell? ⟨b, off + k * 5, none⟩ = some (.int .i64 e.hd) ∧ w.cell? ⟨b, off + k * 5 + 1, none⟩ = some (.slice e.A e.ts.length e.c) ∧ w.cell? ⟨b, off + k * 5 + 2, none⟩ = some (.int .i64 e.cost) ∧ w.cell? ⟨b, off + k * 5 + 3, none⟩ = some (.int .i64 e.l0) ∧ w.cell? ⟨b, off + k * 5 + 4, none⟩ = some (.int .i64 e.l1) ∧ Reads w B 1 e.A e.ts.length (ints e.ts) := by
  obtain ⟨b, off, e, hb, hc⟩ := h.1.2 (by omega)
  have hl : k < es.length := by rw [h.len]; exact hk
  have ht := List.getElem?_eq_getElem hl
  refine ⟨b, off, es[k], e, hb, ht, ?_, ?_, ?_, ?_, ?_, h.2 _ (List.getElem_mem hl)⟩
  · have := hc (k * 5 + 0) (.int .i64 es[k].hd) (by rw [eds_at es k _ 0 ht (by omega)]; rfl)
    simpa using this
  · have := hc (k * 5 + 1) (.slice es[k].A es[k].ts.length es[k].c) (by rw [eds_at es k _ 1 ht (by omega)]; rfl)
    simpa [Nat.add_assoc] using this
  · have := hc (k * 5 + 2) (.int .i64 es[k].cost) (by rw [eds_at es k _ 2 ht (by omega)]; rfl)
    simpa [Nat.add_assoc] using this
  · have := hc (k * 5 + 3) (.int .i64 es[k].l0) (by rw [eds_at es k _ 3 ht (by omega)]; rfl)
    simpa [Nat.add_assoc] using this
  · have := hc (k * 5 + 4) (.int .i64 es[k].l1) (by rw [eds_at es k _ 4 ht (by omega)]; rfl)
    simpa [Nat.add_assoc] using this
end
/-- The value of node i. -/
def gv (V : List Vl) (i : Nat) : Vl := V[i]?.getD vtop
/-- A valid hyperedge of a graph of N nodes. -/
structure Ed.Ok (e : Ed) (N : Nat) : Prop where
  hd : 0 ≤ e.hd ∧ e.hd < N
  cost : 0 ≤ e.cost ∧ e.cost ≤ 1099511627776
  ts : ∀ t ∈ e.ts, 0 ≤ t ∧ t < N
  few : e.ts.length ≤ 4
def tlv (V : Nat → Vl) (ts : List Int) : List Vl := ts.map fun t => V t.toNat
/-- What a hyperedge yields. -/
def ev (V : Nat → Vl) (e : Ed) : Vl := comb e.cost (tlv V e.ts)

theorem infoVl : (Try.prog.info? 38).map (fun i => (i.zero, i.size, i.bytes)) = some (some (.agg #[.int .i64 0, .int .i64 0]), 2, 16) := by kernel_rfl
theorem vls_zero (n : Nat) : madeCells #[.int .i64 0, .int .i64 0] (n * 2) = (vls (List.replicate n ⟨0, 0⟩)).toArray := by
  apply Array.ext_getElem?
  intro j
  have e1 : vls (List.replicate n (⟨0, 0⟩ : Vl)) = List.replicate (n * 2) (.int .i64 0) := by
    induction n with
    | zero => rfl
    | succ n ih =>
      rw [List.replicate_succ, show (n + 1) * 2 = n * 2 + 1 + 1 by omega, List.replicate_succ, List.replicate_succ, ← ih]
      simp [vls, Vl.cells]
  rw [e1]
  simp only [madeCells, Array.getElem?_map, List.getElem?_toArray, List.getElem?_replicate]
  by_cases hj : j < n * 2
  · rw [Array.getElem?_range, if_pos hj, if_pos hj]
    have : j % 2 = 0 ∨ j % 2 = 1 := by omega
    rcases this with h | h <;> simp [h]
  · rw [Array.getElem?_range, if_neg hj, if_neg hj]
    rfl
theorem run_make_vls (n : Nat) (hn : n ≤ 1000000) (w : World) : (Instr.makeSlice 43 (.int .i64 (n : Int)) (.int .i64 (n : Int))).run Try.prog w = .ok (.slice (some ⟨w.heap.size, 0, none⟩) n n) (w.alloc (.cells (vls (List.replicate n ⟨0, 0⟩)).toArray 38)) := by
  obtain ⟨i, hi, hzz⟩ := Option.map_eq_some_iff.1 infoVl
  simp only [Prod.mk.injEq] at hzz
  obtain ⟨hz, hs, hb⟩ := hzz
  have h := run_make (P := Try.prog) w 43 38 i _ Try.underlying43 hi hz .i64 .i64 (n : Int) (n : Int) (by omega) (by omega) (by rw [hb]; omega) (by omega)
  rw [h]
  have e : (Value.agg #[.int .i64 0, .int .i64 0]).cells = #[.int .i64 0, .int .i64 0] := by rfl
  rw [e, hs, Int.toNat_natCast, vls_zero]
def vpre (f : Int → Vl) (ts : List Int) (i : Nat) : List Vl := (ts.take i).map f ++ List.replicate (ts.length - i) ⟨0, 0⟩
theorem vpre_length (f : Int → Vl) (ts : List Int) (i : Nat) (hi : i ≤ ts.length) : (vpre f ts i).length = ts.length := by simp [vpre]; omega
theorem vpre_set {f : Int → Vl} {ts : List Int} {i : Nat} {t : Int} (h : ts[i]? = some t) : (vpre f ts i).set i (f t) = vpre f ts (i + 1) := by
  have hi := (List.getElem?_eq_some_iff.1 h).1
  unfold vpre
  rw [List.set_append_right _ _ (by simp; omega)]
  rw [List.take_add_one, h]
  have e1 : ts.length - i = (ts.length - (i + 1)) + 1 := by omega
  rw [e1, List.replicate_succ]
  have e2 : i - ((ts.take i).map f).length = 0 := by simp; omega
  rw [e2]
  simp
theorem vpre_end (f : Int → Vl) (ts : List Int) : vpre f ts ts.length = ts.map f := by simp [vpre]
end Go.Proofs.Ytbalhkbpmahkgaa

namespace Go.Proofs.Ytbalhkbpmahkgaa
open Go.RowKit

set_option maxRecDepth 100000 in
set_option maxHeartbeats 1000000 in
theorem scombine_any (w : World) (sb gg n' c' B N : Nat) (V : List Vl) (A : Option Addr) (c : Nat) (hd cost l0 l1 : Int) (ts : List Int)
    (hs : w.cell? ⟨sb, 2, none⟩ = some (.slice (some ⟨gg, 0, none⟩) n' c')) (hV : Blk w gg 38 (vls V).toArray) (hn' : n' = V.length) (hN : N ≤ V.length) (hR : Reads w B 1 A ts.length (ints ts)) (hB : B ≤ w.heap.size)
    (hts : ∀ t ∈ ts, 0 ≤ t ∧ t < N) (hc : 0 ≤ cost) (hfew : ts.length ≤ 4) (ho : ∀ v ∈ V, Ordy v) :
    Calls Try.prog 54 #[.pointer (some ⟨sb, 0, none⟩), .agg #[.int .i64 hd, .slice A ts.length c, .int .i64 cost, .int .i64 l0, .int .i64 l1]] w fun e w' =>
      e = .returned (.agg #[.int .i64 (comb cost (tlv (gv V) ts)).c, .int .i64 (comb cost (tlv (gv V) ts)).s]) ∧ Below w.heap.size w w' := by
  subst hn'
  have HR := Lib.hid (hR.more hB)
  have HT := Lib.hid hts
  have HO := Lib.hid ho
  have hsl := World.block_lt_of_cell? w _ hs
  simp only at hsl
  obtain ⟨n, hN'⟩ : ∃ n, ts.length = n := ⟨_, rfl⟩
  obtain ⟨M, hM⟩ : ∃ M, V.length = M := ⟨_, rfl⟩
  have hfn : n ≤ 4 := by omega
  have hmk := run_make_vls n (by omega)
  rw [hM] at hs
  rw [hN'] at HR ⊢
  have HV := Lib.hid hV
  have hs1 := hs
  clear hR hts ho hV
  have hlen : Hid (∀ i, i ≤ n → (vpre (fun t => gv V t.toNat) ts i).length = n) := fun i hi => by rw [vpre_length _ _ _ (by omega), hN']
  go_enter Try.func54, Try.ntmps54
  go_wp2_with fail
  have hb0 : Below w.heap.size w (((w.alloc (.cells #[.int .i64 hd, .slice A n c, .int .i64 cost, .int .i64 l0, .int .i64 l1] 48)).alloc (.cells #[.int .i64 0, .int .i64 0] 38)).alloc (.cells (vls (List.replicate n ⟨0, 0⟩)).toArray 38)) := (((Below.refl _ _).alloc (Nat.le_refl _) _).alloc (by simp) _).alloc (by simp; omega) _
  have K0 : Blk (((w.alloc (.cells #[.int .i64 hd, .slice A n c, .int .i64 cost, .int .i64 l0, .int .i64 l1] 48)).alloc (.cells #[.int .i64 0, .int .i64 0] 38)).alloc (.cells (vls (List.replicate n ⟨0, 0⟩)).toArray 38)) w.heap.size 48 #[.int .i64 hd, .slice A n c, .int .i64 cost, .int .i64 l0, .int .i64 l1] := ((Blk.new' w _ _ rfl).alloc _).alloc _
  have K1 : Blk (((w.alloc (.cells #[.int .i64 hd, .slice A n c, .int .i64 cost, .int .i64 l0, .int .i64 l1] 48)).alloc (.cells #[.int .i64 0, .int .i64 0] 38)).alloc (.cells (vls (List.replicate n ⟨0, 0⟩)).toArray 38)) (w.heap.size + 1) 38 #[.int .i64 0, .int .i64 0] := (Blk.new' _ _ _ (by simp)).alloc _
  have K2 : Blk (((w.alloc (.cells #[.int .i64 hd, .slice A n c, .int .i64 cost, .int .i64 l0, .int .i64 l1] 48)).alloc (.cells #[.int .i64 0, .int .i64 0] 38)).alloc (.cells (vls (List.replicate n ⟨0, 0⟩)).toArray 38)) (w.heap.size + 2) 38 (vls (vpre (fun t => gv V t.toNat) ts 0)).toArray := by
    have e : vpre (fun t => gv V t.toNat) ts 0 = List.replicate n ⟨0, 0⟩ := by simp [vpre, hN']
    rw [e]
    exact Blk.new' _ _ _ (by simp)
  clear hs hmk
  go_loopw [15] (fun a wr => ∃ i : Nat, i ≤ n ∧ a = .int .i64 i ∧ Hid (Blk wr w.heap.size 48 #[.int .i64 hd, .slice A n c, .int .i64 cost, .int .i64 l0, .int .i64 l1]) ∧ Hid (Blk wr (w.heap.size + 1) 38 #[.int .i64 0, .int .i64 0]) ∧ Hid (Blk wr (w.heap.size + 2) 38 (vls (vpre (fun t => gv V t.toNat) ts i)).toArray) ∧ Below w.heap.size w wr) (fun a _ => n - (intOf a).toNat)
  case atStart => exact ⟨0, Nat.zero_le _, rfl, K0, K1, K2, hb0⟩
  case round =>
    obtain ⟨i, hi, rfl, HK0, HK1, HK2, hbr⟩ := hrel
    clear K0 K1 K2 hb0
    have hsr := hbr.size
    have hsc : wr.cell? ⟨sb, 2, none⟩ = some (.slice (some ⟨gg, 0, none⟩) M c') := (hbr.cell (p := ⟨sb, 2, none⟩) hsl).trans hs1
    by_cases hlt : i < n
    case pos =>
      have hltD : decide (i < n) = true := by simp [hlt]
      obtain ⟨b, off, rfl, hb, p0⟩ := (HR.out.below hbr).int_at hlt
      have hti : ts[i]? = some ts[i] := List.getElem?_eq_getElem (by omega)
      obtain ⟨t, ht⟩ : ∃ t, ts[i] = t := ⟨_, rfl⟩
      rw [ht] at hti
      rw [hti] at p0
      simp only [Option.getD_some] at p0
      obtain ⟨t0, t1⟩ := HT.out t (List.mem_of_getElem? hti)
      obtain ⟨j, rfl⟩ := Int.eq_ofNat_of_zero_le t0
      have hj : j < M := by omega
      have hvj : V[j]? = some (gv V j) := by
        have : j < V.length := by omega
        simp [gv, this]
      obtain ⟨v, hv⟩ : ∃ v, gv V j = v := ⟨_, rfl⟩
      rw [hv] at hvj
      obtain ⟨q0, q1⟩ := (HV.out.below hbr HV.out.lt).vl_at hvj
      obtain ⟨pv, hpv⟩ : ∃ pv, (vpre (fun t => gv V t.toNat) ts i)[i]? = some pv := ⟨_, List.getElem?_eq_getElem (by rw [hlen.out i hi]; exact hlt)⟩
      obtain ⟨r0, r1⟩ := HK2.out.vl_at hpv
      have z0 := HK2.out.frozen (i * 2)
      have z1 := HK2.out.frozen (i * 2 + 1)
      go_wp2_with fail
      go_roundw
      case rel =>
        refine ⟨i + 1, by omega, by go_num, ?_, ?_, ?_, ?_⟩
        · exact (HK0.out.far (p := ⟨w.heap.size + 2, i * 2, none⟩) (by simp) _).far (p := ⟨w.heap.size + 2, i * 2 + 1, none⟩) (by simp) _
        · exact (HK1.out.far (p := ⟨w.heap.size + 2, i * 2, none⟩) (by simp) _).far (p := ⟨w.heap.size + 2, i * 2 + 1, none⟩) (by simp) _
        · have h2 := HK2.out.vl_put (k := i) (by rw [hlen.out i hi]; exact hlt) v
          have e := vpre_set (f := fun t => gv V t.toNat) hti
          simp only [Int.toNat_natCast, hv] at e
          rw [e] at h2
          exact h2
        · exact (hbr.setCell (p := ⟨w.heap.size + 2, i * 2, none⟩) (by simp) _).setCell (p := ⟨w.heap.size + 2, i * 2 + 1, none⟩) (by simp) _
      case measure => simp [intOf]; omega
    case neg =>
      have hltD : decide (i < n) = false := by simp [hlt]
      obtain rfl : i = n := by omega
      have hee : vpre (fun t => gv V t.toNat) ts i = tlv (gv V) ts := by rw [← hN', vpre_end]; rfl
      rw [hee] at HK2
      have hll : (tlv (gv V) ts).length = i := by simp [tlv, hN']
      have c2 := HK0.out.cell 2
      have x0 := HK1.out.cell 0
      have x1 := HK1.out.cell 1
      simp at c2 x0 x1
      have hRV : Hid (Reads wr wr.heap.size 2 (some ⟨w.heap.size + 2, 0, none⟩) i (vls (tlv (gv V) ts))) := Reads.of_blk HK2.out HK2.out.lt (by simp) (by rw [vls_length, hll])
      have hoo : Hid (∀ v ∈ tlv (gv V) ts, Ordy v) := fun v hv => by
        obtain ⟨t, ht, rfl⟩ := List.mem_map.1 hv
        obtain ⟨t0, t1⟩ := HT.out t ht
        have : t.toNat < V.length := by omega
        simp only [gv, List.getElem?_eq_getElem this, Option.getD_some]
        exact HO.out _ (List.getElem_mem this)
      go_wp2_with fail
      refine (combine_any cost _ i i wr.heap.size _ wr hRV.out (Nat.le_refl _) hc hoo.out (by omega)).mono ?_
      rintro e w2 ⟨rfl, hb2⟩
      have K1' := HK1.out.below hb2 HK1.out.lt
      have x0 := K1'.cell 0
      have x1 := K1'.cell 1
      have y0 := K1'.frozen 0
      have y1 := K1'.frozen 1
      simp at x0 x1
      go_wp2_with fail
      have r1 := K1'.set2 (.int .i64 (comb cost (tlv (gv V) ts)).c) (.int .i64 (comb cost (tlv (gv V) ts)).s)
      refine bodyPost_ret (results_val rfl rfl (r1.cell 0) (r1.cell 1)) rfl ?_
      exact ⟨rfl, ((hbr.trans (hb2.mono hsr)).setCell (p := ⟨w.heap.size + 1, 0, none⟩) (by simp) _).setCell (p := ⟨w.heap.size + 1, 1, none⟩) (by simp) _⟩
end Go.Proofs.Ytbalhkbpmahkgaa

namespace Go.Proofs.Ytbalhkbpmahkgaa
open Go.RowKit

/-- The hyperedges of which a node is a tail. -/
structure Ur where
  A : Option Addr
  c : Nat
  l : List Nat
def ursC (l : List Ur) : List Value := l.map fun u => .slice u.A u.l.length u.c
/-- Where the solver's parts lie. -/
structure SA where
  base : Nat
  sb : Nat
  va : Nat
  sa : Nat
  oa : Nat
  ua : Nat
  q : Nat
  E : Option Addr
  ce : Nat
  N : Nat
  es : List Ed
  us : List Ur
def bools (l : List Bool) : List Value := l.map Value.bool
def SA.cells (a : SA) : Array Value := #[.int .i64 a.N, .slice a.E a.es.length a.ce, .slice (some ⟨a.va, 0, none⟩) a.N a.N, .slice (some ⟨a.sa, 0, none⟩) a.N a.N, .slice (some ⟨a.oa, 0, none⟩) a.es.length a.es.length, .slice (some ⟨a.ua, 0, none⟩) a.N a.N, .pointer (some ⟨a.q, 0, none⟩)]
def RowF (w : World) (a : SA) (F : Nat → Prop) (u : Ur) : Prop := ∀ j k, u.l[j]? = some k → ∃ b off, u.A = some ⟨b, off, none⟩ ∧ ¬ F b ∧ b ≠ a.va ∧ b ≠ a.sa ∧ b ≠ a.oa ∧ w.cell? ⟨b, off + j, none⟩ = some (.int .i64 (k : Nat))
structure SM (w : World) (a : SA) (F : Nat → Prop) (V : List Vl) (S : List Bool) (O : List Int) (L : List Ent) (nx : Nat) : Prop where
  kS : PB w F a.sb 84 a.cells
  kV : PB w F a.va 38 (vls V).toArray
  kB : PB w F a.sa 4 (bools S).toArray
  kO : PB w F a.oa 3 (ints O).toArray
  kU : PB w F a.ua 28 (ursC a.us).toArray
  lV : V.length = a.N
  lS : S.length = a.N
  lO : O.length = a.es.length
  lU : a.us.length = a.N
  rU : ∀ u ∈ a.us, RowF w a F u
  hQ : QB w a.base a.q F L nx nx
  hE : HG w a.base a.E a.es.length a.es
  bs : a.base ≤ w.heap.size
  lo : a.base ≤ a.sb ∧ a.base ≤ a.va ∧ a.base ≤ a.sa ∧ a.base ≤ a.oa ∧ a.base ≤ a.ua
section
variable {w w' : World} {a : SA} {F G : Nat → Prop} {V : List Vl} {S : List Bool} {O : List Int} {L L' : List Ent} {nx nx' : Nat}
theorem RowF.step {u : Ur} (h : RowF w a F u) (hs : Step a.base w F w' G) : RowF w' a G u := fun j k hk => by
  obtain ⟨b, off, h1, h2, h3, h4, h5, h6⟩ := h j k hk
  have hb := World.block_lt_of_cell? w _ h6
  refine ⟨b, off, h1, fun hg => ?_, h3, h4, h5, ?_⟩
  · rcases hs.new b hg with h7 | h7
    · exact h2 h7
    · simp only at hb; omega
  · rw [← h6]
    exact World.cell?_of_block (a := ⟨b, off + j, none⟩) (hs.touch.block b hb h2)
theorem RowF.below {u : Ur} (h : RowF w a F u) (hb : Below w.heap.size w w') : RowF w' a F u := fun j k hk => by
  obtain ⟨b, off, h1, h2, h3, h4, h5, h6⟩ := h j k hk
  have hb' := World.block_lt_of_cell? w _ h6
  exact ⟨b, off, h1, h2, h3, h4, h5, (hb.cell (p := ⟨b, off + j, none⟩) hb').trans h6⟩
theorem RowF.far {u : Ur} (h : RowF w a F u) {p : Addr} (hp : p.block = a.va ∨ p.block = a.sa ∨ p.block = a.oa) (x : Value) : RowF (w.setCell p x) a F u := fun j k hk => by
  obtain ⟨b, off, h1, h2, h3, h4, h5, h6⟩ := h j k hk
  refine ⟨b, off, h1, h2, h3, h4, h5, (World.cell?_setCell_far _ _ _ _ ?_).trans h6⟩
  intro e
  simp only at e
  rcases hp with h | h | h <;> omega
theorem SM.step (h : SM w a F V S O L nx) (hs : Step a.base w F w' G) (hq : QB w' a.base a.q G L' nx' nx') : SM w' a G V S O L' nx' :=
  ⟨h.kS.step hs, h.kV.step hs, h.kB.step hs, h.kO.step hs, h.kU.step hs, h.lV, h.lS, h.lO, h.lU, fun u hu => (h.rU u hu).step hs, hq, h.hE.below (hs.below h.bs), Nat.le_trans h.bs hs.touch.size, h.lo⟩
theorem SM.below (h : SM w a F V S O L nx) (hb : Below w.heap.size w w') : SM w' a F V S O L nx :=
  ⟨h.kS.below hb, h.kV.below hb, h.kB.below hb, h.kO.below hb, h.kU.below hb, h.lV, h.lS, h.lO, h.lU, fun u hu => (h.rU u hu).below hb, h.hQ.below hb, h.hE.below (hb.mono h.bs), Nat.le_trans h.bs hb.size, h.lo⟩
theorem SM.alloc (h : SM w a F V S O L nx) (o : Obj) : SM (w.alloc o) a F V S O L nx := h.below ((Below.refl _ _).alloc (Nat.le_refl _) _)
theorem SM.drewN (h : SM w a F V S O L nx) (n : Nat) : SM (w.drewN n) a F V S O L nx := h.below (below_drewN (Below.refl _ _) n)
theorem PB.far {g : Nat} {t : TypeId} {cs : Array Value} (h : PB w F g t cs) {p : Addr} (hp : g ≠ p.block) (x : Value) : PB (w.setCell p x) F g t cs := ⟨h.1.far hp x, h.2⟩
theorem QB.farCell {base q ck : Nat} (h : QB w base q F L nx ck) {p : Addr} (hp : ¬ F p.block) (x : Value) : QB (w.setCell p x) base q F L nx ck :=
  h.far (N := fun k => k = p.block) ((Touch.refl (fun k => k = p.block) w).setCell (p := p) (.inl rfl) x) (fun k hk e => hp (e ▸ hk))
theorem HG.farCell {B n : Nat} {E : Option Addr} {es : List Ed} (h : HG w B E n es) {p : Addr} (hp : B ≤ p.block) (x : Value) : HG (w.setCell p x) B E n es :=
  h.keep fun r hr => World.cell?_setCell_far _ _ _ _ (by omega)
theorem SM.setO (h : SM w a F V S O L nx) (k : Nat) (x : Int) : SM (w.setCell ⟨a.oa, k, none⟩ (.int .i64 x)) a F V S (O.set k x) L nx := by
  have e1 : a.sb ≠ a.oa := Blk.ne_ h.kS.1 h.kO.1 (by decide)
  have e2 : a.va ≠ a.oa := Blk.ne_ h.kV.1 h.kO.1 (by decide)
  have e3 : a.sa ≠ a.oa := Blk.ne_ h.kB.1 h.kO.1 (by decide)
  have e4 : a.ua ≠ a.oa := Blk.ne_ h.kU.1 h.kO.1 (by decide)
  refine ⟨h.kS.far e1 _, h.kV.far e2 _, h.kB.far e3 _, ⟨?_, h.kO.2⟩, h.kU.far e4 _, h.lV, h.lS, by rw [List.length_set]; exact h.lO, h.lU, fun u hu => (h.rU u hu).far (.inr (.inr rfl)) _, h.hQ.farCell h.kO.2 _, h.hE.farCell h.lo.2.2.2.1 _, by simpa [World.setCell] using h.bs, h.lo⟩
  have := h.kO.1.set_ k (.int .i64 x)
  have e : (ints (O.set k x)).toArray = (ints O).toArray.setIfInBounds k (.int .i64 x) := by simp [ints, List.map_set]
  rw [e]
  exact this
theorem SM.setB (h : SM w a F V S O L nx) (k : Nat) (x : Bool) : SM (w.setCell ⟨a.sa, k, none⟩ (.bool x)) a F V (S.set k x) O L nx := by
  have e1 : a.sb ≠ a.sa := Blk.ne_ h.kS.1 h.kB.1 (by decide)
  have e2 : a.va ≠ a.sa := Blk.ne_ h.kV.1 h.kB.1 (by decide)
  have e3 : a.oa ≠ a.sa := Blk.ne_ h.kO.1 h.kB.1 (by decide)
  have e4 : a.ua ≠ a.sa := Blk.ne_ h.kU.1 h.kB.1 (by decide)
  refine ⟨h.kS.far e1 _, h.kV.far e2 _, ⟨?_, h.kB.2⟩, h.kO.far e3 _, h.kU.far e4 _, h.lV, by rw [List.length_set]; exact h.lS, h.lO, h.lU, fun u hu => (h.rU u hu).far (.inr (.inl rfl)) _, h.hQ.farCell h.kB.2 _, h.hE.farCell h.lo.2.2.1 _, by simpa [World.setCell] using h.bs, h.lo⟩
  have := h.kB.1.set_ k (.bool x)
  have e : (bools (S.set k x)).toArray = (bools S).toArray.setIfInBounds k (.bool x) := by simp [bools, List.map_set]
  rw [e]
  exact this
theorem SM.setV (h : SM w a F V S O L nx) {k : Nat} (hk : k < a.N) (v : Vl) : SM ((w.setCell ⟨a.va, k * 2, none⟩ (.int .i64 v.c)).setCell ⟨a.va, k * 2 + 1, none⟩ (.int .i64 v.s)) a F (V.set k v) S O L nx := by
  have e1 : a.sb ≠ a.va := Blk.ne_ h.kS.1 h.kV.1 (by decide)
  have e2 : a.sa ≠ a.va := Blk.ne_ h.kB.1 h.kV.1 (by decide)
  have e3 : a.oa ≠ a.va := Blk.ne_ h.kO.1 h.kV.1 (by decide)
  have e4 : a.ua ≠ a.va := Blk.ne_ h.kU.1 h.kV.1 (by decide)
  refine ⟨(h.kS.far (p := ⟨a.va, k * 2, none⟩) e1 _).far (p := ⟨a.va, k * 2 + 1, none⟩) e1 _, ⟨h.kV.1.vl_put (by rw [h.lV]; exact hk) v, h.kV.2⟩, (h.kB.far (p := ⟨a.va, k * 2, none⟩) e2 _).far (p := ⟨a.va, k * 2 + 1, none⟩) e2 _, (h.kO.far (p := ⟨a.va, k * 2, none⟩) e3 _).far (p := ⟨a.va, k * 2 + 1, none⟩) e3 _, (h.kU.far (p := ⟨a.va, k * 2, none⟩) e4 _).far (p := ⟨a.va, k * 2 + 1, none⟩) e4 _, by rw [List.length_set]; exact h.lV, h.lS, h.lO, h.lU, fun u hu => ((h.rU u hu).far (p := ⟨a.va, k * 2, none⟩) (.inl rfl) _).far (p := ⟨a.va, k * 2 + 1, none⟩) (.inl rfl) _, (h.hQ.farCell (p := ⟨a.va, k * 2, none⟩) h.kV.2 _).farCell (p := ⟨a.va, k * 2 + 1, none⟩) h.kV.2 _, (h.hE.farCell (p := ⟨a.va, k * 2, none⟩) h.lo.2.1 _).farCell (p := ⟨a.va, k * 2 + 1, none⟩) h.lo.2.1 _, by simpa [World.setCell] using h.bs, h.lo⟩
theorem SM.bool_at (h : SM w a F V S O L nx) {k : Nat} {x : Bool} (hk : S[k]? = some x) : w.cell? ⟨a.sa, k, none⟩ = some (.bool x) := by
  rw [h.kB.1.cell]
  simp [bools, hk]
theorem SM.open_at (h : SM w a F V S O L nx) {k : Nat} {x : Int} (hk : O[k]? = some x) : w.cell? ⟨a.oa, k, none⟩ = some (.int .i64 x) := by
  rw [h.kO.1.cell]
  simp [ints, hk]
theorem SM.uses_at (h : SM w a F V S O L nx) {k : Nat} {x : Ur} (hk : a.us[k]? = some x) : w.cell? ⟨a.ua, k, none⟩ = some (.slice x.A x.l.length x.c) := by
  rw [h.kU.1.cell]
  simp [ursC, hk]
end
/-- Whether the candidate of a hyperedge is offered; the queue behind it. -/
def offc (V : List Vl) (S : List Bool) (e : Ed) : Bool := decide ((ev (gv V) e).c < 1099511627776) && !(S[e.hd.toNat]?.getD true)
def offL (V : List Vl) (S : List Bool) (e : Ed) (L : List Ent) (nx : Nat) : List Ent := if offc V S e then L ++ [⟨e.hd, (ev (gv V) e).c, (ev (gv V) e).s, nx, nx⟩] else L
def offN (V : List Vl) (S : List Bool) (e : Ed) (nx : Nat) : Nat := if offc V S e then nx + 1 else nx
end Go.Proofs.Ytbalhkbpmahkgaa

namespace Go.Proofs.Ytbalhkbpmahkgaa
open Go.RowKit

theorem Step.of_below {base : Nat} {w w' : World} {F : Nat → Prop} (hb : Below w.heap.size w w') : Step base w F w' F := ⟨Touch.of_below hb, fun _ hk => .inl hk, fun h => hb.mono h⟩
theorem Step.trans {base : Nat} {w w1 w2 : World} {F G H : Nat → Prop} (h : Step base w F w1 G) (h' : Step base w1 G w2 H) : Step base w F w2 H :=
  ⟨h.touch.trans h'.touch h.new, fun k hk => by
    rcases h'.new k hk with h1 | h1
    · exact h.new k h1
    · exact .inr (Nat.le_trans h.touch.size h1), fun hb => (h.below hb).trans (h'.below (Nat.le_trans hb h.touch.size))⟩

set_option maxRecDepth 100000 in
set_option maxHeartbeats 2000000 in
theorem offer_any (w : World) (a : SA) (F : Nat → Prop) (V : List Vl) (S : List Bool) (O : List Int) (L : List Ent) (nx k : Nat) (e : Ed) (h : SM w a F V S O L nx) (he : a.es[k]? = some e) (hok : e.Ok a.N) (ho : ∀ v ∈ V, Ordy v) (hnx : nx < 100000000) :
    Calls Try.prog 51 #[.pointer (some ⟨a.sb, 0, none⟩), .int .i64 k] w fun x w' => ∃ v, x = .returned v ∧ ∃ G, SM w' a G V S O (offL V S e L nx) (offN V S e nx) ∧ Step a.base w F w' G := by
  have hk := (List.getElem?_eq_some_iff.1 he).1
  obtain ⟨b, off, e', hE, hb, he', p0, p1, p2, p3, p4, hR⟩ := h.hE.at_ hk
  obtain rfl : e' = e := by rw [he] at he'; injection he' with he'; exact he'.symm
  have HSM := Lib.hid h
  have HO := Lib.hid ho
  have HOK := Lib.hid hok
  have HR := Lib.hid hR
  have s1 := h.kS.1.cell 1
  have s2 := h.kS.1.cell 2
  simp [SA.cells] at s1 s2
  rw [hE] at s1
  obtain ⟨ne, hne⟩ : ∃ ne, a.es.length = ne := ⟨_, rfl⟩
  rw [hne] at s1 hk
  have hbw : b < w.heap.size := by have := h.bs; omega
  have hsb := h.kS.1.lt
  clear h ho hok hR he he'
  obtain ⟨⟨hd0, hd1⟩, ⟨c0, c1⟩, t0, few⟩ := HOK.out
  go_enter Try.func51, Try.ntmps51
  go_wp2_with fail
  obtain ⟨w0, hw0⟩ : ∃ w0, w.alloc (.cells #[.int .i64 e'.hd, .slice e'.A e'.ts.length e'.c, .int .i64 e'.cost, .int .i64 e'.l0, .int .i64 e'.l1] 48) = w0 := ⟨_, rfl⟩
  rw [hw0]
  have HSM0 : Hid (SM w0 a F V S O L nx) := by rw [← hw0]; exact HSM.out.alloc _
  have HKE : Hid (PB w0 F w.heap.size 48 #[.int .i64 e'.hd, .slice e'.A e'.ts.length e'.c, .int .i64 e'.cost, .int .i64 e'.l0, .int .i64 e'.l1]) := by rw [← hw0]; exact HSM.out.hQ.new _ _
  have hb0 : Below w.heap.size w w0 := by rw [← hw0]; exact (Below.refl _ _).alloc (Nat.le_refl _) _
  have hs0 : w0.heap.size = w.heap.size + 1 := by rw [← hw0]; simp
  have HB := Lib.hid HSM.out.bs
  have S2 : w0.cell? ⟨a.sb, 2, none⟩ = some (.slice (some ⟨a.va, 0, none⟩) a.N a.N) := by
    have := HSM0.out.kS.1.cell 2
    simpa [SA.cells] using this
  clear hw0 s1 s2
  refine (scombine_any w0 a.sb a.va a.N a.N a.base a.N V e'.A e'.c e'.hd e'.cost e'.l0 e'.l1 e'.ts S2 HSM0.out.kV.1 HSM0.out.lV.symm (by rw [HSM0.out.lV]; exact Nat.le_refl _) (HR.out.below (hb0.mono HB.out)) (by have := HB.out; omega) t0 c0 few HO.out).mono ?_
  rintro x w1 ⟨rfl, hb1⟩
  obtain ⟨v, hv⟩ : ∃ v, comb e'.cost (tlv (gv V) e'.ts) = v := ⟨_, rfl⟩
  have hev : ev (gv V) e' = v := hv
  rw [hv]
  have HSM1 := Lib.hid (HSM0.out.below hb1)
  have HKE1 := Lib.hid (HKE.out.below hb1)
  have hs1 := hb1.size
  have hb01 := hb0.trans (hb1.mono (by omega))
  clear HSM0 HKE
  clear S2
  go_upto_region 2 with fail
  obtain ⟨w2, hw2⟩ : ∃ w2, w1.alloc (.cells #[.int .i64 v.c, .int .i64 v.s] 38) = w2 := ⟨_, rfl⟩
  rw [hw2]
  have HSM2 : Hid (SM w2 a F V S O L nx) := by rw [← hw2]; exact HSM1.out.alloc _
  have HKE2 : Hid (PB w2 F w.heap.size 48 #[.int .i64 e'.hd, .slice e'.A e'.ts.length e'.c, .int .i64 e'.cost, .int .i64 e'.l0, .int .i64 e'.l1]) := by rw [← hw2]; exact HKE1.out.below ((Below.refl _ _).alloc (Nat.le_refl _) _)
  have HKV2 : Hid (PB w2 F w1.heap.size 38 #[.int .i64 v.c, .int .i64 v.s]) := by rw [← hw2]; exact HSM1.out.hQ.new _ _
  have hb2 : Below w.heap.size w w2 := by rw [← hw2]; exact hb01.alloc (by omega) _
  clear hw2 HSM1 HKE1 hb01 hb1 hb0
  have S3 : w2.cell? ⟨a.sb, 3, none⟩ = some (.slice (some ⟨a.sa, 0, none⟩) a.N a.N) := by
    have := HSM2.out.kS.1.cell 3
    simpa [SA.cells] using this
  obtain ⟨j, hj⟩ := Int.eq_ofNat_of_zero_le hd0
  have hjN : j < a.N := by omega
  obtain ⟨sj, hsj⟩ : ∃ sj, S[j]? = some sj := ⟨_, List.getElem?_eq_getElem (by rw [HSM2.out.lS]; exact hjN)⟩
  have S4 := HSM2.out.bool_at hsj
  have E0 := HKE2.out.1.cell 0
  have V0 := HKV2.out.1.cell 0
  have V1 := HKV2.out.1.cell 1
  simp at E0 V0 V1
  rw [hj] at E0
  have hoc : offc V S e' = (decide (v.c < 1099511627776) && !sj) := by simp only [offc, hev, hj, Int.toNat_natCast, hsj, Option.getD_some]
  by_cases hvc : v.c < 1099511627776
  case neg =>
    have hvD : decide (v.c < 1099511627776) = false := by simp [hvc]
    have hoF : offc V S e' = false := by rw [hoc, hvD]; rfl
    clear hvc
    go_quiet (fail)
    go_wp2_with fail
    go_end0
    exact ⟨_, rfl, F, by unfold offL offN; rw [hoF]; exact HSM2.out.drewN _, Step.of_below (below_drewN hb2 _)⟩
  case pos =>
  have hvD : decide (v.c < 1099511627776) = true := by simp [hvc]
  clear hvc
  cases sj
  case true =>
    have hoF : offc V S e' = false := by rw [hoc, hvD]; rfl
    go_quiet (fail)
    go_wp2_with fail
    go_end0
    exact ⟨_, rfl, F, by unfold offL offN; rw [hoF]; exact HSM2.out.drewN _, Step.of_below (below_drewN hb2 _)⟩
  case false =>
    have hoT : offc V S e' = true := by rw [hoc, hvD]; rfl
    go_quiet (fail)
    go_wp2_with fail
    obtain ⟨w3, hw3⟩ : ∃ w3, w2.drewN nq = w3 := ⟨_, rfl⟩
    rw [hw3]
    have HSM3 : Hid (SM w3 a F V S O L nx) := by rw [← hw3]; exact HSM2.out.drewN _
    have HKE3 : Hid (PB w3 F w.heap.size 48 #[.int .i64 e'.hd, .slice e'.A e'.ts.length e'.c, .int .i64 e'.cost, .int .i64 e'.l0, .int .i64 e'.l1]) := by rw [← hw3]; exact HKE2.out.below (below_drewN (Below.refl _ _) _)
    have HKV3 : Hid (PB w3 F w1.heap.size 38 #[.int .i64 v.c, .int .i64 v.s]) := by rw [← hw3]; exact HKV2.out.below (below_drewN (Below.refl _ _) _)
    have hb3 : Below w.heap.size w w3 := by rw [← hw3]; exact below_drewN hb2 _
    clear hw3 HSM2 HKE2 HKV2 hb2 S3 S4 E0 V0 V1
    clear hs1 hbw hsb hs0
    rw [hj] at HKE3
    have HSD : Hid (SM w3.drew a F V S O L nx) := HSM3.out.drewN 1
    have HS0 := Lib.hid (show w3.drew.cell? ⟨a.sb, 6, none⟩ = some (.pointer (some ⟨a.q, 0, none⟩)) ∧ w3.drew.cell? ⟨w.heap.size, 0, none⟩ = some (.int .i64 (j : Nat)) ∧ w3.drew.cell? ⟨w1.heap.size, 0, none⟩ = some (.int .i64 v.c) ∧ w3.drew.cell? ⟨w1.heap.size, 1, none⟩ = some (.int .i64 v.s) from ⟨HSD.out.kS.1.cell 6, HKE3.out.1.cell 0, HKV3.out.1.cell 0, HKV3.out.1.cell 1⟩)
    go_region_held3 (fun w' => w'.cell? ⟨a.sb, 6, none⟩ = some (.pointer (some ⟨a.q, 0, none⟩)) ∧ w'.cell? ⟨w.heap.size, 0, none⟩ = some (.int .i64 (j : Nat)) ∧ w'.cell? ⟨w1.heap.size, 0, none⟩ = some (.int .i64 v.c) ∧ w'.cell? ⟨w1.heap.size, 1, none⟩ = some (.int .i64 v.s))
      (first | with_reducible exact HS0.out | with_reducible exact HS1.out)
      (first | (go_at_call 56; refine (pushq_any (j : Int) v.c v.s HSD.out.hQ hnx hnx).mono ?_; rintro e w4 ⟨rfl, G, h4, s4⟩; have HSM4 := Lib.hid (HSD.out.step s4 h4); have HS1 := Lib.hid (show w4.cell? ⟨a.sb, 6, none⟩ = some (.pointer (some ⟨a.q, 0, none⟩)) ∧ w4.cell? ⟨w.heap.size, 0, none⟩ = some (.int .i64 (j : Nat)) ∧ w4.cell? ⟨w1.heap.size, 0, none⟩ = some (.int .i64 v.c) ∧ w4.cell? ⟨w1.heap.size, 1, none⟩ = some (.int .i64 v.s) from ⟨HSM4.out.kS.1.cell 6, (PB.step (base := a.base) (w := w3.drew) HKE3.out s4).1.cell 0, (PB.step (base := a.base) (w := w3.drew) HKV3.out s4).1.cell 0, (PB.step (base := a.base) (w := w3.drew) HKV3.out s4).1.cell 1⟩)))
    all_goals
      go_wp2_with fail
      go_end0
      refine ⟨_, rfl, G, ?_, (Step.of_below hb3).trans ((Step.of_below (w := w3) (w' := w3.drew) (below_drewN (Below.refl _ _) 1)).trans s4)⟩
      have e1 : offL V S e' L nx = L ++ [⟨(j : Int), v.c, v.s, nx, nx⟩] := by unfold offL; rw [if_pos hoT, hj, hev]
      have e2 : offN V S e' nx = nx + 1 := by unfold offN; rw [if_pos hoT]
      rw [e1, e2]
      exact HSM4.out
end Go.Proofs.Ytbalhkbpmahkgaa

namespace Go.Proofs.Ytbalhkbpmahkgaa
open Go.RowKit

/-- One tail of hyperedge k settled: the open tails, the queue, the next handle. -/
def dec (es : List Ed) (V : List Vl) (S : List Bool) (st : List Int × List Ent × Nat) (k : Nat) : List Int × List Ent × Nat :=
  match es[k]? with
  | some e => if st.1[k]?.getD 0 - 1 = 0 then (st.1.set k (st.1[k]?.getD 0 - 1), offL V S e st.2.1 st.2.2, offN V S e st.2.2) else (st.1.set k (st.1[k]?.getD 0 - 1), st.2.1, st.2.2)
  | none => st
theorem foldl_take_succ {α β : Type} {f : β → α → β} {b : β} {l : List α} {i : Nat} {x : α} (h : l[i]? = some x) : (l.take (i + 1)).foldl f b = f ((l.take i).foldl f b) x := by
  rw [List.take_add_one, h]
  simp
theorem dec_len {es : List Ed} {V : List Vl} {S : List Bool} {st : List Int × List Ent × Nat} {k : Nat} : (dec es V S st k).1.length = st.1.length := by
  unfold dec
  split
  · split <;> simp
  · rfl
theorem dec_nx {es : List Ed} {V : List Vl} {S : List Bool} {st : List Int × List Ent × Nat} {k : Nat} : (dec es V S st k).2.2 ≤ st.2.2 + 1 := by
  unfold dec
  split
  · split
    · simp only [offN]; split <;> simp
    · simp
  · simp
theorem dec_bd {es : List Ed} {V : List Vl} {S : List Bool} {st : List Int × List Ent × Nat} {k : Nat} {i : Int} (h : ∀ o ∈ st.1, -i ≤ o ∧ o ≤ 1000) (h0 : 0 ≤ i) : ∀ o ∈ (dec es V S st k).1, -(i + 1) ≤ o ∧ o ≤ 1000 := by
  have hg : -i ≤ st.1[k]?.getD 0 ∧ st.1[k]?.getD 0 ≤ 1000 := by
    cases hk : st.1[k]? with
    | none => simp; omega
    | some o => exact h o (List.mem_of_getElem? hk)
  have hs : ∀ o ∈ st.1.set k (st.1[k]?.getD 0 - 1), -(i + 1) ≤ o ∧ o ≤ 1000 := fun o ho => by
    rcases List.mem_or_eq_of_mem_set ho with h1 | h1
    · have := h o h1; omega
    · omega
  unfold dec
  split
  · split
    · exact hs
    · exact hs
  · intro o ho
    have := h o ho
    omega
theorem fold_bd {es : List Ed} {V : List Vl} {S : List Bool} : ∀ {l : List Nat} {st : List Int × List Ent × Nat} {i : Int}, (∀ o ∈ st.1, -i ≤ o ∧ o ≤ 1000) → 0 ≤ i →
    (∀ o ∈ (l.foldl (dec es V S) st).1, -(i + l.length) ≤ o ∧ o ≤ 1000) ∧ (l.foldl (dec es V S) st).2.2 ≤ st.2.2 + l.length ∧ (l.foldl (dec es V S) st).1.length = st.1.length
  | [], st, i, h, h0 => by simpa using h
  | k :: l, st, i, h, h0 => by
    obtain ⟨h1, h2, h3⟩ := fold_bd (l := l) (dec_bd (es := es) (V := V) (S := S) (k := k) h h0) (by omega)
    simp only [List.foldl_cons, List.length_cons]
    refine ⟨fun o ho => ?_, ?_, ?_⟩
    · have := h1 o ho; omega
    · have := dec_nx (es := es) (V := V) (S := S) (st := st) (k := k); omega
    · rw [h3, dec_len]
theorem step_touch {base : Nat} {w w' : World} {a : SA} (h : Touch (fun k => k = a.va ∨ k = a.sa ∨ k = a.oa) w w') (hlo : base ≤ a.va ∧ base ≤ a.sa ∧ base ≤ a.oa) : base ≤ w.heap.size → Below base w w' :=
  fun hb => h.toBelow (fun k hk => by rcases hk with e | e | e <;> omega) hb
/-- What the solver's functions turn: the queue, the rows. -/
structure Stp (a : SA) (w : World) (F : Nat → Prop) (w' : World) (G : Nat → Prop) : Prop where
  touch : Touch (fun k => F k ∨ k = a.va ∨ k = a.sa ∨ k = a.oa) w w'
  new : ∀ k, G k → F k ∨ w.heap.size ≤ k
  below : a.base ≤ w.heap.size → Below a.base w w'
theorem Step.stp {a : SA} {w w' : World} {F G : Nat → Prop} (h : Step a.base w F w' G) : Stp a w F w' G := ⟨h.touch.mono (fun _ hk => .inl hk), h.new, h.below⟩
theorem Stp.trans {a : SA} {w w1 w2 : World} {F G H : Nat → Prop} (h : Stp a w F w1 G) (h' : Stp a w1 G w2 H) : Stp a w F w2 H :=
  ⟨h.touch.trans h'.touch (fun k hk => by
    rcases hk with h1 | h1
    · rcases h.new k h1 with h2 | h2
      · exact .inl (.inl h2)
      · exact .inr h2
    · exact .inl (.inr h1)), fun k hk => by
    rcases h'.new k hk with h1 | h1
    · exact h.new k h1
    · exact .inr (Nat.le_trans h.touch.size h1), fun hb => (h.below hb).trans (h'.below (Nat.le_trans hb h.touch.size))⟩
theorem Stp.of_touch {a : SA} {w w' : World} {F : Nat → Prop} (h : Touch (fun k => k = a.va ∨ k = a.sa ∨ k = a.oa) w w') (hlo : a.base ≤ a.va ∧ a.base ≤ a.sa ∧ a.base ≤ a.oa) : Stp a w F w' F :=
  ⟨h.mono (fun _ hk => .inr hk), fun _ hk => .inl hk, step_touch h hlo⟩
theorem Stp.refl (a : SA) (w : World) (F : Nat → Prop) : Stp a w F w F := (Step.of_below (Below.refl _ _)).stp

/-- What the first statement reads. -/
abbrev F5 (w : World) (sb sa va N b j : Nat) (v : Vl) : Prop := w.cell? ⟨sb, 3, none⟩ = some (.slice (some ⟨sa, 0, none⟩) N N) ∧ w.cell? ⟨sb, 2, none⟩ = some (.slice (some ⟨va, 0, none⟩) N N) ∧ w.cell? ⟨b, 0, none⟩ = some (.int .i64 (j : Nat)) ∧ w.cell? ⟨b, 1, none⟩ = some (.int .i64 v.c) ∧ w.cell? ⟨b, 2, none⟩ = some (.int .i64 v.s)
theorem F5.far {w : World} {sb sa va N b j : Nat} {v : Vl} (h : F5 w sb sa va N b j v) {g o : Nat} (h1 : g ≠ sb) (h2 : g ≠ b) (x : Value) : F5 (w.setCell ⟨g, o, none⟩ x) sb sa va N b j v :=
  ⟨(World.cell?_setCell_far _ _ _ _ h1).trans h.1, (World.cell?_setCell_far _ _ _ _ h1).trans h.2.1, (World.cell?_setCell_far _ _ _ _ h2).trans h.2.2.1, (World.cell?_setCell_far _ _ _ _ h2).trans h.2.2.2.1, (World.cell?_setCell_far _ _ _ _ h2).trans h.2.2.2.2⟩
theorem F5.drew {w : World} {sb sa va N b j : Nat} {v : Vl} (h : F5 w sb sa va N b j v) : F5 w.drew sb sa va N b j v := h

set_option maxRecDepth 100000 in
set_option maxHeartbeats 2000000 in
theorem settle_any (w : World) (a : SA) (F : Nat → Prop) (V : List Vl) (S : List Bool) (O : List Int) (L : List Ent) (nx j : Nat) (v : Vl) (u : Ur) (h : SM w a F V S O L nx) (hj : j < a.N) (hu : a.us[j]? = some u) (hul : u.l.length ≤ 1000) (huk : ∀ k ∈ u.l, k < a.es.length)
    (hok : ∀ e ∈ a.es, e.Ok a.N) (ho : ∀ v ∈ V, Ordy v) (hv : Ordy v) (hO : ∀ o ∈ O, 0 ≤ o ∧ o ≤ 1000) (hnx : nx + u.l.length < 100000000) :
    Calls Try.prog 53 #[.pointer (some ⟨a.sb, 0, none⟩), .agg #[.int .i64 j, .int .i64 v.c, .int .i64 v.s]] w fun x w' => ∃ v', x = .returned v' ∧ ∃ G,
      SM w' a G (V.set j v) (S.set j true) (u.l.foldl (dec a.es (V.set j v) (S.set j true)) (O, L, nx)).1 (u.l.foldl (dec a.es (V.set j v) (S.set j true)) (O, L, nx)).2.1 (u.l.foldl (dec a.es (V.set j v) (S.set j true)) (O, L, nx)).2.2 ∧ Stp a w F w' G := by
  have HSM := Lib.hid h
  have HOV := Lib.hid ho
  have HOK := Lib.hid hok
  have HOO := Lib.hid hO
  have HUK := Lib.hid huk
  obtain ⟨V', hV'⟩ : ∃ V', V.set j v = V' := ⟨_, rfl⟩
  obtain ⟨S', hS'⟩ : ∃ S', S.set j true = S' := ⟨_, rfl⟩
  have HOV' : Hid (∀ v ∈ V', Ordy v) := by
    rw [← hV']
    intro x hx
    rcases List.mem_or_eq_of_mem_set hx with h1 | h1
    · exact ho x h1
    · rw [h1]; exact hv
  rw [hV', hS']
  have HVS := Lib.hid (And.intro hV' hS')
  have hlo := h.lo
  have HLO := Lib.hid (show a.base ≤ a.va ∧ a.base ≤ a.sa ∧ a.base ≤ a.oa from ⟨hlo.2.1, hlo.2.2.1, hlo.2.2.2.1⟩)
  have nsv : a.sa ≠ a.va := Blk.ne_ h.kB.1 h.kV.1 (by decide)
  have nbv : a.sb ≠ a.va := Blk.ne_ h.kS.1 h.kV.1 (by decide)
  have nbs : a.sb ≠ a.sa := Blk.ne_ h.kS.1 h.kB.1 (by decide)
  have lva := h.kV.1.lt
  have lsa := h.kB.1.lt
  clear ho hok hO huk h hV' hS' hlo
  go_enter Try.func53, Try.ntmps53
  go_upto_region 1 with fail
  obtain ⟨w1, hw1⟩ : ∃ w1, w.alloc (.cells #[.int .i64 j, .int .i64 v.c, .int .i64 v.s] 87) = w1 := ⟨_, rfl⟩
  rw [hw1]
  have HSM1 : Hid (SM w1 a F V S O L nx) := by rw [← hw1]; exact HSM.out.alloc _
  have HKC : Hid (PB w1 F w.heap.size 87 #[.int .i64 j, .int .i64 v.c, .int .i64 v.s]) := by rw [← hw1]; exact HSM.out.hQ.new _ _
  have hb1 : Below w.heap.size w w1 := by rw [← hw1]; exact (Below.refl _ _).alloc (Nat.le_refl _) _
  clear hw1
  obtain ⟨bx, hbx⟩ : ∃ bx, w.heap.size = bx := ⟨_, rfl⟩
  have nxv : a.va ≠ bx := by omega
  have nxs : a.sa ≠ bx := by omega
  have f5 : F5 w1 a.sb a.sa a.va a.N bx j v := by
    rw [← hbx]
    exact ⟨HSM1.out.kS.1.cell 3, HSM1.out.kS.1.cell 2, HKC.out.1.cell 0, HKC.out.1.cell 1, HKC.out.1.cell 2⟩
  obtain ⟨sj, hsj⟩ : ∃ sj, S[j]? = some sj := ⟨_, List.getElem?_eq_getElem (by rw [HSM1.out.lS]; exact hj)⟩
  obtain ⟨vj, hvj⟩ : ∃ vj, V[j]? = some vj := ⟨_, List.getElem?_eq_getElem (by rw [HSM1.out.lV]; exact hj)⟩
  have b0 := HSM1.out.bool_at hsj
  have v0 := (HSM1.out.kV.1.vl_at hvj).1
  have v1 := (HSM1.out.kV.1.vl_at hvj).2
  have zb := HSM1.out.kB.1.frozen j
  have zv0 := HSM1.out.kV.1.frozen (j * 2)
  have zv1 := HSM1.out.kV.1.frozen (j * 2 + 1)
  have HFA := Lib.hid f5.drew
  have HFB : Hid (F5 (World.drew (w1.setCell ⟨a.sa, j, none⟩ (.bool true))) a.sb a.sa a.va a.N bx j v) := (f5.far (fun e => nbs e.symm) nxs _).drew
  have HFC : Hid (F5 (World.drew ((w1.setCell ⟨a.va, j * 2, none⟩ (.int .i64 v.c)).setCell ⟨a.va, j * 2 + 1, none⟩ (.int .i64 v.s))) a.sb a.sa a.va a.N bx j v) := ((f5.far (fun e => nbv e.symm) nxv _).far (fun e => nbv e.symm) nxv _).drew
  have HFD : Hid (F5 (World.drew (((w1.setCell ⟨a.sa, j, none⟩ (.bool true)).setCell ⟨a.va, j * 2, none⟩ (.int .i64 v.c)).setCell ⟨a.va, j * 2 + 1, none⟩ (.int .i64 v.s))) a.sb a.sa a.va a.N bx j v) := (((f5.far (fun e => nbs e.symm) nxs _).far (fun e => nbv e.symm) nxv _).far (fun e => nbv e.symm) nxv _).drew
  have HFE : Hid (F5 (World.drew (((w1.setCell ⟨a.va, j * 2, none⟩ (.int .i64 v.c)).setCell ⟨a.va, j * 2 + 1, none⟩ (.int .i64 v.s)).setCell ⟨a.sa, j, none⟩ (.bool true))) a.sb a.sa a.va a.N bx j v) := (((f5.far (fun e => nbv e.symm) nxv _).far (fun e => nbv e.symm) nxv _).far (fun e => nbs e.symm) nxs _).drew
  have HE1 : Hid (SM (World.drew (((w1.setCell ⟨a.sa, j, none⟩ (.bool true)).setCell ⟨a.va, j * 2, none⟩ (.int .i64 v.c)).setCell ⟨a.va, j * 2 + 1, none⟩ (.int .i64 v.s))) a F V' S' O L nx ∧ Stp a w (F) (World.drew (((w1.setCell ⟨a.sa, j, none⟩ (.bool true)).setCell ⟨a.va, j * 2, none⟩ (.int .i64 v.c)).setCell ⟨a.va, j * 2 + 1, none⟩ (.int .i64 v.s))) F) := by
    rw [← HVS.out.1, ← HVS.out.2]
    refine ⟨((HSM1.out.setB j true).setV hj v).drewN 1, (Step.of_below hb1).stp.trans (Stp.of_touch ?_ HLO.out)⟩
    exact ((((Touch.refl _ w1).setCell (p := ⟨a.sa, j, none⟩) (.inl (.inr (.inl rfl))) _).setCell (p := ⟨a.va, j * 2, none⟩) (.inl (.inl rfl)) _).setCell (p := ⟨a.va, j * 2 + 1, none⟩) (.inl (.inl rfl)) _).drew1
  have HE2 : Hid (SM (World.drew (((w1.setCell ⟨a.va, j * 2, none⟩ (.int .i64 v.c)).setCell ⟨a.va, j * 2 + 1, none⟩ (.int .i64 v.s)).setCell ⟨a.sa, j, none⟩ (.bool true))) a F V' S' O L nx ∧ Stp a w (F) (World.drew (((w1.setCell ⟨a.va, j * 2, none⟩ (.int .i64 v.c)).setCell ⟨a.va, j * 2 + 1, none⟩ (.int .i64 v.s)).setCell ⟨a.sa, j, none⟩ (.bool true))) F) := by
    rw [← HVS.out.1, ← HVS.out.2]
    refine ⟨((HSM1.out.setV hj v).setB j true).drewN 1, (Step.of_below hb1).stp.trans (Stp.of_touch ?_ HLO.out)⟩
    exact ((((Touch.refl _ w1).setCell (p := ⟨a.va, j * 2, none⟩) (.inl (.inl rfl)) _).setCell (p := ⟨a.va, j * 2 + 1, none⟩) (.inl (.inl rfl)) _).setCell (p := ⟨a.sa, j, none⟩) (.inl (.inr (.inl rfl))) _).drew1
  rw [hbx]
  clear f5
  go_cut [] (fun wx => SM wx a F V' S' O L nx ∧ Stp a w F wx F ∧ F5 wx a.sb a.sa a.va a.N bx j v)
  case first =>
    go_region_held3 (fun w' => w'.cell? ⟨a.sb, 3, none⟩ = some (.slice (some ⟨a.sa, 0, none⟩) a.N a.N) ∧ w'.cell? ⟨a.sb, 2, none⟩ = some (.slice (some ⟨a.va, 0, none⟩) a.N a.N) ∧ w'.cell? ⟨bx, 0, none⟩ = some (.int .i64 (j : Nat)) ∧ w'.cell? ⟨bx, 1, none⟩ = some (.int .i64 v.c) ∧ w'.cell? ⟨bx, 2, none⟩ = some (.int .i64 v.s))
      (first | with_reducible exact HFA.out | with_reducible exact HFB.out | with_reducible exact HFC.out | with_reducible exact HFD.out | with_reducible exact HFE.out) (fail)
    all_goals
      go_wp2_with fail
      go_meet
      first | exact ⟨HE1.out.1, HE1.out.2, HFD.out⟩ | exact ⟨HE2.out.1, HE2.out.2, HFE.out⟩
  case rest =>
    obtain ⟨hsm, hstp, f5⟩ := hcut
    rename World => w2
    clear HE1 HE2 HFA HFB HFC HFD HFE HSM1 HKC b0 v0 v1 zb zv0 zv1 hsj hvj hb1
    have HSM2 := Lib.hid hsm
    have HST2 := Lib.hid hstp
    have x0 := f5.2.2.1
    have U5 : w2.cell? ⟨a.sb, 5, none⟩ = some (.slice (some ⟨a.ua, 0, none⟩) a.N a.N) := hsm.kS.1.cell 5
    have U0 := hsm.uses_at hu
    obtain ⟨uA, uc, ul⟩ := u
    simp only at U0 hul hnx HUK ⊢
    obtain ⟨n, hn⟩ : ∃ n, ul.length = n := ⟨_, rfl⟩
    rw [hn] at U0
    clear hsm hstp f5 lva lsa hbx nxv nxs nsv nbv nbs
    go_upto_region 2 with fail
    go_quiet (fail)
    go_wp2_with fail
    obtain ⟨w3, hw3⟩ : ∃ w3, w2.drewN nq = w3 := ⟨_, rfl⟩
    rw [hw3]
    have HSM3 : Hid (SM w3 a F V' S' O L nx) := by rw [← hw3]; exact HSM2.out.drewN _
    have HST3 : Hid (Stp a w F w3 F) := by rw [← hw3]; exact HST2.out.trans (Step.of_below (below_drewN (Below.refl _ _) _)).stp
    clear hw3 HSM2 HST2 U5 U0 x0
    clear w2
    go_loopw [31] (fun x wr => ∃ i : Nat, i ≤ n ∧ x = .int .i64 i ∧ ∃ G, Hid (SM wr a G V' S' ((ul.take i).foldl (dec a.es V' S') (O, L, nx)).1 ((ul.take i).foldl (dec a.es V' S') (O, L, nx)).2.1 ((ul.take i).foldl (dec a.es V' S') (O, L, nx)).2.2) ∧ Hid (Stp a w F wr G)) (fun x _ => n - (intOf x).toNat)
    case atStart => exact ⟨0, Nat.zero_le _, rfl, F, HSM3, HST3⟩
    case round =>
      obtain ⟨i, hi, rfl, G, HSMR, HSTR⟩ := hrel
      clear HSM3 HST3
      by_cases hlt : i < n
      case neg =>
        have hltD : decide (i < n) = false := by simp [hlt]
        obtain rfl : i = n := by omega
        have hte : ul.take i = ul := by rw [← hn]; exact List.take_length
        rw [hte] at HSMR
        go_wp2_with fail
        go_end0
        exact ⟨⟨_, rfl⟩, G, HSMR.out, HSTR.out⟩
      case pos =>
        have hltD : decide (i < n) = true := by simp [hlt]
        have hki : ul[i]? = some ul[i] := List.getElem?_eq_getElem (by omega)
        obtain ⟨k, hk⟩ : ∃ k, ul[i] = k := ⟨_, rfl⟩
        rw [hk] at hki
        clear hk
        have hkl := HUK.out k (List.mem_of_getElem? hki)
        obtain ⟨b, off, hA, _, _, _, _, r0⟩ := HSMR.out.rU _ (List.mem_of_getElem? hu) i k hki
        simp only at hA
        obtain ⟨e, he⟩ : ∃ e, a.es[k]? = some e := ⟨_, List.getElem?_eq_getElem hkl⟩
        have hst := foldl_take_succ (f := dec a.es V' S') (b := (O, L, nx)) hki
        obtain ⟨st, hste⟩ : ∃ st, (ul.take i).foldl (dec a.es V' S') (O, L, nx) = st := ⟨_, rfl⟩
        have hbd := fold_bd (es := a.es) (V := V') (S := S') (l := ul.take i) (st := (O, L, nx)) (i := 0) (fun o ho => by have := HOO.out o ho; omega) (Int.le_refl _)
        rw [hste] at hst HSMR hbd
        have hti : (ul.take i).length = i := by rw [List.length_take]; omega
        rw [hti] at hbd
        obtain ⟨Oi, Li, ni⟩ := st
        simp only at HSMR hbd
        obtain ⟨ok, hok⟩ : ∃ ok, Oi[k]? = some ok := ⟨_, List.getElem?_eq_getElem (by rw [HSMR.out.lO]; exact hkl)⟩
        have hokb := hbd.1 ok (List.mem_of_getElem? hok)
        have hnib := hbd.2.1
        have hdec : dec a.es V' S' (Oi, Li, ni) k = if ok - 1 = 0 then (Oi.set k (ok - 1), offL V' S' e Li ni, offN V' S' e ni) else (Oi.set k (ok - 1), Li, ni) := by simp only [dec, he, hok, Option.getD_some]
        rw [hdec] at hst
        have o4 : wr.cell? ⟨a.sb, 4, none⟩ = some (.slice (some ⟨a.oa, 0, none⟩) a.es.length a.es.length) := HSMR.out.kS.1.cell 4
        have ok0 := HSMR.out.open_at hok
        have okz := HSMR.out.kO.1.frozen k
        have nso : ¬ a.sb = a.oa := Blk.ne_ HSMR.out.kS.1 HSMR.out.kO.1 (by decide)
        have hw1 : IntKind.i64.wrap (ok - 1) = ok - 1 := IntWalk.i64_in _ (by omega)
        subst hA
        have HSM4 : Hid (SM (wr.setCell ⟨a.oa, k, none⟩ (.int .i64 (ok - 1))) a G V' S' (Oi.set k (ok - 1)) Li ni) := HSMR.out.setO k (ok - 1)
        have HST4 : Hid (Stp a w F (wr.setCell ⟨a.oa, k, none⟩ (.int .i64 (ok - 1))) G) := HSTR.out.trans (Stp.of_touch ((Touch.refl _ wr).setCell (p := ⟨a.oa, k, none⟩) (.inl (.inr (.inr rfl))) _) HLO.out)
        have HOKe := Lib.hid (HOK.out e (List.mem_of_getElem? he))
        by_cases hz : ok - 1 = 0
        case neg =>
          have hzD : (ok - 1 == 0) = false := by simpa using hz
          rw [if_neg hz] at hst
          have HH := Lib.hid hst
          clear hst hdec hste hbd
          go_wp2_with fail
          go_roundw
          case rel =>
            refine ⟨i + 1, by omega, by go_num, G, ?_, HST4⟩
            rw [HH.out]
            exact HSM4
          case measure => simp [intOf]; omega
        case pos =>
          have hzD : (ok - 1 == 0) = true := by simpa using hz
          rw [if_pos hz, hz] at hst
          rw [hz] at HSM4 HST4
          have HH := Lib.hid hst
          clear hst hdec hste hbd
          go_wp2_with fail
          refine (offer_any _ a G V' S' _ Li ni k e HSM4.out he HOKe.out HOV'.out (by omega)).mono ?_
          rintro x w5 ⟨v', rfl, G5, hsm5, hst5⟩
          have HSM5 := Lib.hid hsm5
          have HST5 := Lib.hid (HST4.out.trans hst5.stp)
          clear hsm5 hst5
          go_wp2_with fail
          go_roundw
          case rel =>
            refine ⟨i + 1, by omega, by go_num, G5, ?_, HST5⟩
            rw [HH.out]
            exact HSM5
          case measure => simp [intOf]; omega
end Go.Proofs.Ytbalhkbpmahkgaa

namespace Go.Proofs.Ytbalhkbpmahkgaa
open Go.RowKit

def NrmF (U : Nat → Vl) : Prop := ∀ i, Nrm (U i)
def PreFix (es : List Ed) (U : Nat → Vl) : Prop := ∀ e ∈ es, vle (U e.hd.toNat) (ev U e)
/-- The least values: the greatest ones that no hyperedge undercuts. -/
structure Sol (es : List Ed) (V : Nat → Vl) : Prop where
  nrm : NrmF V
  pre : PreFix es V
  top : ∀ U, NrmF U → PreFix es U → ∀ i, vle (U i) (V i)
theorem Sol.uniq {es : List Ed} {V V' : Nat → Vl} (h : Sol es V) (h' : Sol es V') : V = V' := funext fun i => (h'.top V h.nrm h.pre i).antisymm (h.top V' h'.nrm h'.pre i)
theorem tlv_ord {V : Nat → Vl} (h : NrmF V) (ts : List Int) : ∀ v ∈ tlv V ts, Ordy v := fun v hv => by
  obtain ⟨t, _, rfl⟩ := List.mem_map.1 hv
  exact (h _).1
theorem ev_mono {U V : Nat → Vl} {e : Ed} (hU : NrmF U) (hV : NrmF V) (h0 : 0 ≤ e.cost) (h : ∀ t ∈ e.ts, vle (U t.toNat) (V t.toNat)) : vle (ev U e) (ev V e) :=
  comb_mono h0 (LeL.map h) (tlv_ord hU _) (tlv_ord hV _)
theorem ev_nrm {V : Nat → Vl} {e : Ed} (hV : NrmF V) (h0 : 0 ≤ e.cost) : Nrm (ev V e) := comb_nrm h0 (tlv_ord hV _)
theorem ev_sup {V : Nat → Vl} {e : Ed} (hV : NrmF V) (h0 : 0 ≤ e.cost) {t : Int} (ht : t ∈ e.ts) : vle (V t.toNat) (ev V e) :=
  comb_sup h0 (tlv_ord hV _) (List.mem_map.2 ⟨t, ht, rfl⟩) (hV _)
theorem ev_fin {V : Nat → Vl} {e : Ed} (hV : NrmF V) (h0 : 0 ≤ e.cost) (h : (ev V e).c < 1099511627776) {t : Int} (ht : t ∈ e.ts) : (V t.toNat).c < 1099511627776 :=
  comb_finite h0 (tlv_ord hV _) (List.mem_map.2 ⟨t, ht, rfl⟩) h
theorem ev_congr {U V : Nat → Vl} {e : Ed} (h : ∀ t ∈ e.ts, U t.toNat = V t.toNat) : ev U e = ev V e := by
  unfold ev tlv
  congr 1
  exact List.map_congr_left h
theorem Nrm.eq_top {v : Vl} (h : Nrm v) (hc : 1099511627776 ≤ v.c) : v = vtop := by
  have h1 := h.1.2.1
  have hce : v.c = 1099511627776 := by omega
  exact Vl.ext' hce (h.2 hce)

def Ent.v (x : Ent) : Vl := ⟨x.cost, x.size⟩
theorem bf_vle {x y : Ent} (h : bf x y = true) : vle x.v y.v := by
  rw [bf_iff] at h
  unfold vle Ent.v
  simp only
  omega
def uns (S : List Bool) (t : Int) : Bool := !(S[t.toNat]?.getD false)
def cntU (S : List Bool) (e : Ed) : Nat := e.ts.countP (uns S)
def Cov (V : List Vl) (S : List Bool) (L : List Ent) (e : Ed) : Prop :=
  1099511627776 ≤ (ev (gv V) e).c ∨ (S[e.hd.toNat]? = some true ∧ vle (gv V e.hd.toNat) (ev (gv V) e)) ∨ ∃ x ∈ L, x.node = e.hd ∧ x.v = ev (gv V) e
structure Inv (N : Nat) (es : List Ed) (j : Nat) (rest : List Nat) (V : List Vl) (S : List Bool) (O : List Int) (L : List Ent) (M : Vl) : Prop where
  nV : NrmF (gv V)
  set_ : ∀ i, S[i]? = some true → (gv V i).c < 1099511627776 ∧ vle (gv V i) M
  unset : ∀ i, S[i]? ≠ some true → gv V i = vtop
  que : ∀ x ∈ L, 0 ≤ x.node ∧ x.node < N ∧ vle M x.v ∧ x.cost < 1099511627776 ∧ Nrm x.v
  low : ∀ U, NrmF U → PreFix es U → (∀ i, vle (U i) (gv V i)) ∧ ∀ x ∈ L, vle (U x.node.toNat) x.v
  cnt : ∀ k e, es[k]? = some e → O[k]? = some ((cntU S e + rest.count k : Nat) : Int)
  cov : ∀ k e, es[k]? = some e → (e.ts = [] → k < j) → O[k]? = some 0 → Cov V S L e
/-- How many hyperedges have open tails. -/
def opn (O : List Int) : Nat := O.countP fun o => decide (0 < o)

section
variable {N j : Nat} {es : List Ed} {rest : List Nat} {V : List Vl} {S : List Bool} {O : List Int} {L : List Ent} {M : Vl} {nx : Nat}
theorem Cov.more {L' : List Ent} {e : Ed} (h : Cov V S L e) (hL : ∀ x ∈ L, x ∈ L') : Cov V S L' e := by
  rcases h with h | h | ⟨x, h1, h2⟩
  · exact .inl h
  · exact .inr (.inl h)
  · exact .inr (.inr ⟨x, hL x h1, h2⟩)
theorem mem_offL {e : Ed} {x : Ent} (h : x ∈ offL V S e L nx) : x ∈ L ∨ (offc V S e = true ∧ x = ⟨e.hd, (ev (gv V) e).c, (ev (gv V) e).s, nx, nx⟩) := by
  unfold offL at h
  split at h
  · rename_i hc
    rcases List.mem_append.1 h with h | h
    · exact .inl h
    · exact .inr ⟨hc, by simpa using h⟩
  · exact .inl h
theorem offL_sub {e : Ed} {x : Ent} (h : x ∈ L) : x ∈ offL V S e L nx := by
  unfold offL
  split
  · exact List.mem_append_left _ h
  · exact h
/-- Behind an offer the hyperedge is covered; the rest is kept. -/
theorem Inv.offer (h : Inv N es j rest V S O L M) {k : Nat} {e : Ed} (he : es[k]? = some e) (hok : e.Ok N) (hS : S.length = N) (hM : vle M (ev (gv V) e)) :
    (∀ x ∈ offL V S e L nx, 0 ≤ x.node ∧ x.node < N ∧ vle M x.v ∧ x.cost < 1099511627776 ∧ Nrm x.v) ∧ (∀ U, NrmF U → PreFix es U → (∀ i, vle (U i) (gv V i)) ∧ ∀ x ∈ offL V S e L nx, vle (U x.node.toNat) x.v) ∧ Cov V S (offL V S e L nx) e := by
  have hmem := List.mem_of_getElem? he
  refine ⟨fun x hx => ?_, fun U hU hP => ⟨(h.low U hU hP).1, fun x hx => ?_⟩, ?_⟩
  · rcases mem_offL hx with h1 | ⟨h1, rfl⟩
    · exact h.que x h1
    · simp only [offc, Bool.and_eq_true, decide_eq_true_eq] at h1
      exact ⟨hok.hd.1, hok.hd.2, hM, h1.1, ev_nrm h.nV hok.cost.1⟩
  · rcases mem_offL hx with h1 | ⟨h1, rfl⟩
    · exact (h.low U hU hP).2 x h1
    · exact (hP e hmem).trans (ev_mono hU h.nV hok.cost.1 fun t _ => (h.low U hU hP).1 _)
  · by_cases hc : offc V S e = true
    · refine .inr (.inr ⟨⟨e.hd, (ev (gv V) e).c, (ev (gv V) e).s, nx, nx⟩, ?_, rfl, rfl⟩)
      unfold offL
      rw [if_pos hc]
      simp
    · by_cases hc1 : (ev (gv V) e).c < 1099511627776
      case neg => exact .inl (by omega)
      case pos =>
        have hc : ¬ (!(S[e.hd.toNat]?.getD true)) = true := fun h1 => hc (by simp only [offc, h1, hc1, decide_true]; rfl)
        have hlt : e.hd.toNat < S.length := by have := hok.hd; omega
        have hst : S[e.hd.toNat]? = some true := by
          rw [List.getElem?_eq_getElem hlt] at hc ⊢
          simpa using hc
        exact .inr (.inl ⟨hst, (h.set_ _ hst).2.trans hM⟩)
theorem Inv.decr {k : Nat} (h : Inv N es j (k :: rest) V S O L M) (hes : ∀ e ∈ es, e.Ok N) (hS : S.length = N) (hk : k < es.length) (hM : ∀ e, es[k]? = some e → vle M (ev (gv V) e)) :
    Inv N es j rest V S (dec es V S (O, L, nx) k).1 (dec es V S (O, L, nx) k).2.1 M := by
  have he := List.getElem?_eq_getElem hk
  obtain ⟨e, hee⟩ : ∃ e, es[k] = e := ⟨_, rfl⟩
  rw [hee] at he
  have hO := h.cnt k e he
  have hkO : k < O.length := (List.getElem?_eq_some_iff.1 hO).1
  have hval : ((cntU S e + (k :: rest).count k : Nat) : Int) - 1 = ((cntU S e + rest.count k : Nat) : Int) := by rw [List.count_cons_self]; omega
  obtain ⟨q1, q2, q3⟩ := h.offer (nx := nx) he (hes e (List.mem_of_getElem? he)) hS (hM e he)
  have hcnt : ∀ k' e', es[k']? = some e' → (O.set k ((cntU S e + rest.count k : Nat) : Int))[k']? = some ((cntU S e' + rest.count k' : Nat) : Int) := fun k' e' he' => by
    rw [List.getElem?_set]
    by_cases hkk : k = k'
    · subst hkk
      rw [he] at he'
      injection he' with he'
      subst he'
      rw [if_pos rfl, if_pos hkO]
    · rw [if_neg hkk, h.cnt k' e' he']
      rw [List.count_cons_of_ne hkk]
  unfold Go.Proofs.Ytbalhkbpmahkgaa.dec
  simp only [he, hO, Option.getD_some, hval]
  split
  · rename_i hz
    refine ⟨h.nV, h.set_, h.unset, q1, q2, hcnt, fun k' e' he' hj' h0 => ?_⟩
    by_cases hkk : k = k'
    · subst hkk
      rw [he] at he'
      injection he' with he'
      subst he'
      exact q3
    · refine (h.cov k' e' he' hj' ?_).more (fun x hx => offL_sub hx)
      rw [← h0, List.getElem?_set, if_neg hkk]
  · rename_i hz
    refine ⟨h.nV, h.set_, h.unset, h.que, h.low, hcnt, fun k' e' he' hj' h0 => ?_⟩
    by_cases hkk : k = k'
    · subst hkk
      rw [he] at he'
      injection he' with he'
      subst he'
      rw [hcnt k e he] at h0
      injection h0 with h0
      exact absurd h0 hz
    · refine h.cov k' e' he' hj' ?_
      rw [← h0, List.getElem?_set, if_neg hkk]
end
end Go.Proofs.Ytbalhkbpmahkgaa

namespace Go.Proofs.Ytbalhkbpmahkgaa
open Go.RowKit

theorem opn_set : ∀ {O : List Int} {k : Nat} {o x : Int}, O[k]? = some o → opn (O.set k x) + (if 0 < o then 1 else 0) = opn O + (if 0 < x then 1 else 0)
  | [], _, _, _, h => by simp at h
  | a :: O, 0, o, x, h => by
    simp at h
    subst h
    simp only [opn, List.set_cons_zero, List.countP_cons, decide_eq_true_eq]
    omega
  | a :: O, k + 1, o, x, h => by
    simp at h
    have ih := opn_set (x := x) h
    simp only [opn, List.set_cons_succ, List.countP_cons, decide_eq_true_eq] at *
    omega
section
variable {N j : Nat} {es : List Ed} {rest : List Nat} {V : List Vl} {S : List Bool} {O : List Int} {L : List Ent} {M : Vl} {nx : Nat}
theorem offL_len {e : Ed} : (offL V S e L nx).length ≤ L.length + 1 ∧ (offL V S e L nx).length + nx = L.length + offN V S e nx := by
  unfold offL offN
  split <;> simp <;> omega
theorem dec_opn {k : Nat} {e : Ed} {o : Int} (he : es[k]? = some e) (hO : O[k]? = some o) (ho : 0 < o) :
    (dec es V S (O, L, nx) k).2.1.length + opn (dec es V S (O, L, nx) k).1 ≤ L.length + opn O ∧ (dec es V S (O, L, nx) k).2.2 + opn (dec es V S (O, L, nx) k).1 ≤ nx + opn O := by
  have h1 := opn_set (x := o - 1) hO
  have h2 := offL_len (V := V) (S := S) (e := e) (L := L) (nx := nx)
  rw [if_pos ho] at h1
  unfold dec
  simp only [he, hO, Option.getD_some]
  split
  · rename_i hz
    rw [hz] at h1
    rw [if_neg (by omega)] at h1
    rw [hz]
    simp only
    omega
  · simp only
    split at h1 <;> omega
theorem Inv.fold : ∀ {l : List Nat} {O : List Int} {L : List Ent} {nx : Nat}, Inv N es j l V S O L M → (∀ e ∈ es, e.Ok N) → S.length = N → (∀ k ∈ l, k < es.length ∧ ∀ e, es[k]? = some e → vle M (ev (gv V) e)) →
    Inv N es j [] V S (l.foldl (dec es V S) (O, L, nx)).1 (l.foldl (dec es V S) (O, L, nx)).2.1 M ∧ (l.foldl (dec es V S) (O, L, nx)).2.1.length + opn (l.foldl (dec es V S) (O, L, nx)).1 ≤ L.length + opn O ∧ (l.foldl (dec es V S) (O, L, nx)).2.2 + opn (l.foldl (dec es V S) (O, L, nx)).1 ≤ nx + opn O
  | [], O, L, nx, h, _, _, _ => ⟨h, Nat.le_refl _, Nat.le_refl _⟩
  | k :: l, O, L, nx, h, hes, hS, hl => by
    obtain ⟨hk, hM⟩ := hl k (by simp)
    have h1 := h.decr (nx := nx) hes hS hk hM
    have he := List.getElem?_eq_getElem hk
    have hO := h.cnt k _ he
    obtain ⟨q1, q2⟩ := dec_opn (es := es) (V := V) (S := S) (L := L) (nx := nx) he hO (by rw [List.count_cons_self]; omega)
    have ih := Inv.fold (l := l) (O := (dec es V S (O, L, nx) k).1) (L := (dec es V S (O, L, nx) k).2.1) (nx := (dec es V S (O, L, nx) k).2.2) h1 hes hS (fun k' hk' => hl k' (by simp [hk']))
    simp only [List.foldl_cons]
    refine ⟨ih.1, ?_, ?_⟩
    · exact Nat.le_trans ih.2.1 q1
    · exact Nat.le_trans ih.2.2 q2
theorem min_le {x : Ent} {L L' : List Ent} (hm : IsMin x L) (hp : L.Perm (x :: L')) (hd : (L.map Ent.t).Nodup) : ∀ y ∈ L', vle x.v y.v := fun y hy => by
  refine bf_vle (hm.2 y (hp.mem_iff.2 (by simp [hy])) fun e => ?_)
  have := (hp.map Ent.t).nodup_iff.1 hd
  rw [List.map_cons, List.nodup_cons] at this
  exact this.1 (List.mem_map.2 ⟨y, hy, e⟩)
/-- The first candidate is taken; its node is settled. -/
theorem Inv.drop {L' : List Ent} {x : Ent} (h : Inv N es j [] V S O L M) (hm : IsMin x L) (hp : L.Perm (x :: L')) (hd : (L.map Ent.t).Nodup) (hs : S[x.node.toNat]? = some true) : Inv N es j [] V S O L' x.v := by
  have hx := h.que x hm.1
  have hle := min_le hm hp hd
  have hsub : ∀ y ∈ L', y ∈ L := fun y hy => hp.mem_iff.2 (by simp [hy])
  refine ⟨h.nV, fun i hi => ⟨(h.set_ i hi).1, (h.set_ i hi).2.trans hx.2.2.1⟩, h.unset, fun y hy => ?_, fun U hU hP => ⟨(h.low U hU hP).1, fun y hy => (h.low U hU hP).2 y (hsub y hy)⟩, h.cnt, fun k e he hj h0 => ?_⟩
  · obtain ⟨a1, a2, _, a4, a5⟩ := h.que y (hsub y hy)
    exact ⟨a1, a2, hle y hy, a4, a5⟩
  · rcases h.cov k e he hj h0 with h1 | h1 | ⟨y, h1, h2, h3⟩
    · exact .inl h1
    · exact .inr (.inl h1)
    · rcases List.mem_cons.1 (hp.mem_iff.1 h1) with rfl | h4
      · refine .inr (.inl ⟨by rw [← h2]; exact hs, ?_⟩)
        rw [← h2, ← h3]
        exact (h.set_ _ hs).2.trans hx.2.2.1
      · exact .inr (.inr ⟨y, h4, h2, h3⟩)
theorem gv_set {V : List Vl} {n i : Nat} {v : Vl} (hn : n < V.length) : gv (V.set n v) i = if i = n then v else gv V i := by
  unfold gv
  rw [List.getElem?_set]
  by_cases h : n = i
  · subst h; rw [if_pos rfl, if_pos rfl, if_pos hn]; rfl
  · rw [if_neg h, if_neg (fun e => h e.symm)]
theorem cntU_set {S : List Bool} {n : Nat} {e : Ed} (hn : S[n]? = some false) (ht : ∀ t ∈ e.ts, 0 ≤ t) : cntU S e = cntU (S.set n true) e + e.ts.count (n : Int) := by
  unfold cntU
  have hnl := (List.getElem?_eq_some_iff.1 hn).1
  generalize e.ts = ts at ht
  induction ts with
  | nil => rfl
  | cons t ts ih =>
    have iht := ih (fun t ht' => ht t (by simp [ht']))
    have ht0 := ht t (by simp)
    rw [List.countP_cons, List.countP_cons, List.count_cons]
    by_cases htn : t = (n : Int)
    · subst htn
      have e1 : uns S (n : Int) = true := by simp [uns, hn]
      have e2 : uns (S.set n true) (n : Int) = false := by simp [uns, hnl]
      simp only [e1, e2, beq_self_eq_true, if_true, Bool.false_eq_true, if_false]
      omega
    · have hne : ¬ n = t.toNat := by omega
      have e1 : uns (S.set n true) t = uns S t := by simp only [uns, List.getElem?_set, if_neg hne]
      rw [e1, if_neg (show ¬ (t == (n : Int)) = true by simpa using htn)]
      omega
/-- The first candidate is taken; its node is settled now. -/
theorem Inv.take {L' : List Ent} {x : Ent} {n : Nat} (h : Inv N es j [] V S O L M) (hes : ∀ e ∈ es, e.Ok N) (hV : V.length = N) (hS : S.length = N) (hm : IsMin x L) (hp : L.Perm (x :: L')) (hd : (L.map Ent.t).Nodup) (hxn : x.node = (n : Int)) (hs : S[n]? = some false)
    (hr : ∀ k e, es[k]? = some e → rest.count k = e.ts.count (n : Int)) : Inv N es j rest (V.set n x.v) (S.set n true) O L' x.v := by
  have hx := h.que x hm.1
  have hle := min_le hm hp hd
  have hsub : ∀ y ∈ L', y ∈ L := fun y hy => hp.mem_iff.2 (by simp [hy])
  have hnl := (List.getElem?_eq_some_iff.1 hs).1
  have hnV : n < V.length := by omega
  have hun : gv V n = vtop := h.unset n (by rw [hs]; simp)
  have hnew : ∀ i, gv (V.set n x.v) i = if i = n then x.v else gv V i := fun i => gv_set hnV
  have hSS : ∀ i, (S.set n true)[i]? = some true → i = n ∨ S[i]? = some true := fun i hi => by
    rw [List.getElem?_set] at hi
    by_cases e : n = i
    · exact .inl e.symm
    · rw [if_neg e] at hi; exact .inr hi
  have hSn : (S.set n true)[n]? = some true := by rw [List.getElem?_set, if_pos rfl, if_pos hnl]
  refine ⟨fun i => ?_, fun i hi => ?_, fun i hi => ?_, fun y hy => ?_, fun U hU hP => ⟨fun i => ?_, fun y hy => (h.low U hU hP).2 y (hsub y hy)⟩, fun k e he => ?_, fun k e he hj h0 => ?_⟩
  · rw [hnew]
    split
    · exact hx.2.2.2.2
    · exact h.nV i
  · rw [hnew]
    split
    · exact ⟨hx.2.2.2.1, vle.refl _⟩
    · rename_i hne
      rcases hSS i hi with h1 | h1
      · exact absurd h1 hne
      · exact ⟨(h.set_ i h1).1, (h.set_ i h1).2.trans hx.2.2.1⟩
  · rw [hnew]
    split
    · rename_i hi2
      subst hi2
      exact absurd hSn hi
    · rename_i hne
      refine h.unset i (fun h1 => hi ?_)
      rw [List.getElem?_set, if_neg (fun e => hne e.symm)]
      exact h1
  · obtain ⟨a1, a2, _, a4, a5⟩ := h.que y (hsub y hy)
    exact ⟨a1, a2, hle y hy, a4, a5⟩
  · rw [hnew]
    split
    · rename_i hi2
      subst hi2
      have := (h.low U hU hP).2 x hm.1
      rw [hxn] at this
      exact this
    · exact (h.low U hU hP).1 i
  · rw [h.cnt k e he, cntU_set hs (fun t ht => ((hes e (List.mem_of_getElem? he)).ts t ht).1), hr k e he]
    simp
  · have hc := h.cnt k e he
    rw [h0] at hc
    injection hc with hc
    have hc2 : cntU S e = 0 := by simp at hc; omega
    have hok := hes e (List.mem_of_getElem? he)
    have hno : ∀ t ∈ e.ts, t.toNat ≠ n := fun t ht e1 => by
      have := List.countP_eq_zero.1 hc2 t ht
      simp only [uns] at this
      rw [e1, hs] at this
      exact this rfl
    have hev : ev (gv (V.set n x.v)) e = ev (gv V) e := ev_congr fun t ht => by rw [hnew, if_neg (hno t ht)]
    rcases h.cov k e he hj h0 with h1 | ⟨h1, h2⟩ | ⟨y, h1, h2, h3⟩
    · exact .inl (by rw [hev]; exact h1)
    · have hne : e.hd.toNat ≠ n := fun e1 => by rw [e1, hs] at h1; simp at h1
      refine .inr (.inl ⟨?_, ?_⟩)
      · rw [List.getElem?_set, if_neg (fun e => hne e.symm)]; exact h1
      · rw [hev, hnew, if_neg hne]; exact h2
    · rcases List.mem_cons.1 (hp.mem_iff.1 h1) with rfl | h4
      · have e1 : e.hd.toNat = n := by rw [← h2, hxn]; rfl
        refine .inr (.inl ⟨by rw [e1]; exact hSn, ?_⟩)
        rw [hev, hnew, if_pos e1, ← h3]
        exact vle.refl _
      · exact .inr (.inr ⟨y, h4, h2, by rw [hev]; exact h3⟩)
/-- Nothing is left to take. -/
theorem Inv.done (h : Inv N es es.length [] V S O [] M) (hes : ∀ e ∈ es, e.Ok N) (hS : S.length = N) : Sol es (gv V) := by
  refine ⟨h.nV, fun e he => ?_, fun U hU hP => (h.low U hU hP).1⟩
  obtain ⟨k, hk⟩ := List.getElem?_of_mem he
  have hok := hes e he
  have hn := ev_nrm (e := e) h.nV hok.cost.1
  have hkl := (List.getElem?_eq_some_iff.1 hk).1
  by_cases hc : cntU S e = 0
  · rcases h.cov k e hk (fun _ => hkl) (by rw [h.cnt k e hk, hc]; rfl) with h1 | h1 | ⟨y, h1, _⟩
    · rw [hn.eq_top h1]; exact (h.nV _).le_top
    · exact h1.2
    · simp at h1
  · obtain ⟨t, ht, hu⟩ := List.countP_pos_iff.1 (Nat.pos_of_ne_zero hc)
    have htop : gv V t.toNat = vtop := h.unset _ (fun h1 => by simp [uns, h1] at hu)
    have : 1099511627776 ≤ (ev (gv V) e).c := by
      by_cases hl : (ev (gv V) e).c < 1099511627776
      · have := ev_fin h.nV hok.cost.1 hl ht
        rw [htop] at this
        exact absurd this (by decide)
      · omega
    rw [hn.eq_top this]
    exact (h.nV _).le_top
theorem gv_rep (N i : Nat) : gv (List.replicate N vtop) i = vtop := by
  unfold gv
  rw [List.getElem?_replicate]
  split <;> rfl
theorem Inv.start (N : Nat) (es : List Ed) : Inv N es 0 [] (List.replicate N vtop) (List.replicate N false) (es.map fun e => (e.ts.length : Int)) [] ⟨0, 0⟩ := by
  refine ⟨fun i => by rw [gv_rep]; exact Nrm.top, fun i hi => ?_, fun i _ => gv_rep _ _, by simp, fun U hU hP => ⟨fun i => by rw [gv_rep]; exact (hU i).le_top, by simp⟩, fun k e he => ?_, fun k e he hj h0 => ?_⟩
  · rw [List.getElem?_replicate] at hi
    split at hi <;> simp at hi
  · rw [List.getElem?_map, he]
    have : cntU (List.replicate N false) e = e.ts.length := by
      unfold cntU
      rw [List.countP_eq_length]
      intro t _
      simp only [uns, List.getElem?_replicate]
      split <;> rfl
    simp [this]
  · rw [List.getElem?_map, he] at h0
    simp at h0
    exact absurd (hj h0) (Nat.not_lt_zero _)
theorem Inv.skip (h : Inv N es j [] V S O L M) {e : Ed} (he : es[j]? = some e) (hts : e.ts ≠ []) : Inv N es (j + 1) [] V S O L M :=
  ⟨h.nV, h.set_, h.unset, h.que, h.low, h.cnt, fun k e' he' hj h0 => h.cov k e' he' (fun h1 => by
    have := hj h1
    by_cases hk : k = j
    · subst hk
      rw [he] at he'
      injection he' with he'
      subst he'
      exact absurd h1 hts
    · omega) h0⟩
theorem Inv.first (h : Inv N es j [] V S O L ⟨0, 0⟩) (hes : ∀ e ∈ es, e.Ok N) (hS : S.length = N) {e : Ed} (he : es[j]? = some e) : Inv N es (j + 1) [] V S O (offL V S e L nx) ⟨0, 0⟩ := by
  have hok := hes e (List.mem_of_getElem? he)
  have hn := ev_nrm (e := e) h.nV hok.cost.1
  obtain ⟨q1, q2, q3⟩ := h.offer (nx := nx) he hok hS (by have := hn.1; unfold Ordy at this; unfold vle; simp only; omega)
  refine ⟨h.nV, h.set_, h.unset, q1, q2, h.cnt, fun k e' he' hj h0 => ?_⟩
  by_cases hk : k = j
  · subst hk
    rw [he] at he'
    injection he' with he'
    subst he'
    exact q3
  · exact (h.cov k e' he' (fun h1 => by have := hj h1; omega) h0).more (fun x hx => offL_sub hx)
end
end Go.Proofs.Ytbalhkbpmahkgaa

namespace Go.Proofs.Ytbalhkbpmahkgaa
open Go.RowKit

/-- Whether a hyperedge attains the value of its head. -/
def att (V : Nat → Vl) (e : Ed) : Bool := decide ((V e.hd.toNat).c < 1099511627776) && (decide ((ev V e).c = (V e.hd.toNat).c) && decide ((ev V e).s = (V e.hd.toNat).s))
theorem att_iff {V : Nat → Vl} {e : Ed} : att V e = true ↔ (V e.hd.toNat).c < 1099511627776 ∧ ev V e = V e.hd.toNat := by
  simp only [att, Bool.and_eq_true, decide_eq_true_eq]
  constructor
  · rintro ⟨h1, h2, h3⟩; exact ⟨h1, Vl.ext' h2 h3⟩
  · rintro ⟨h1, h2⟩; exact ⟨h1, by rw [h2], by rw [h2]⟩
def isC (V : Nat → Vl) (i : Nat) (e : Ed) : Bool := decide (e.hd.toNat = i) && att V e
/-- The first hyperedge that attains the value of node i, or -1. -/
def cho (V : Nat → Vl) (es : List Ed) (i : Nat) : Int := match es.findIdx? (isC V i) with
  | some k => (k : Int)
  | none => -1
theorem cho_nil (V : Nat → Vl) (i : Nat) : cho V [] i = -1 := rfl
theorem cho_some {V : Nat → Vl} {es : List Ed} {i k : Nat} (h : es.findIdx? (isC V i) = some k) : cho V es i = (k : Int) := by unfold cho; rw [h]
theorem cho_none {V : Nat → Vl} {es : List Ed} {i : Nat} (h : es.findIdx? (isC V i) = none) : cho V es i = -1 := by unfold cho; rw [h]
theorem cho_bd (V : Nat → Vl) (es : List Ed) (i : Nat) : -1 ≤ cho V es i ∧ cho V es i < es.length := by
  unfold cho
  split
  · rename_i k h
    have := (List.findIdx?_eq_some_iff_getElem.1 h).1
    omega
  · omega
/-- One hyperedge more behind the others. -/
theorem cho_snoc (V : Nat → Vl) (es : List Ed) (e : Ed) (i : Nat) : cho V (es ++ [e]) i = if cho V es i < 0 ∧ isC V i e = true then (es.length : Int) else cho V es i := by
  unfold cho
  rw [List.findIdx?_append]
  cases h : es.findIdx? (isC V i) with
  | some k => simp; omega
  | none =>
    by_cases hc : isC V i e = true
    · simp [List.findIdx?_cons, hc]
    · simp [List.findIdx?_cons, hc]
theorem cho_take {V : Nat → Vl} {es : List Ed} {k : Nat} {e : Ed} (h : es[k]? = some e) (i : Nat) : cho V (es.take (k + 1)) i = if cho V (es.take k) i < 0 ∧ isC V i e = true then (k : Int) else cho V (es.take k) i := by
  have hk := (List.getElem?_eq_some_iff.1 h).1
  rw [List.take_add_one, h]
  have := cho_snoc V (es.take k) e i
  rw [List.length_take, Nat.min_eq_left (by omega)] at this
  exact this
/-- The chosen hyperedges of all nodes. -/
def chs (V : Nat → Vl) (es : List Ed) (N : Nat) : List Int := (List.range N).map (cho V es)
theorem chs_len (V : Nat → Vl) (es : List Ed) (N : Nat) : (chs V es N).length = N := by simp [chs]
theorem chs_at {V : Nat → Vl} {es : List Ed} {N i : Nat} (h : i < N) : (chs V es N)[i]? = some (cho V es i) := by simp [chs, h]
theorem chs_nil (V : Nat → Vl) (N : Nat) : chs V [] N = List.replicate N (-1) := by
  apply List.ext_getElem?
  intro i
  rw [List.getElem?_replicate]
  by_cases h : i < N
  · rw [chs_at h, if_pos h]; rfl
  · rw [if_neg h, List.getElem?_eq_none (by rw [chs_len]; omega)]
theorem chs_same {V : Nat → Vl} {es : List Ed} {N k : Nat} {e : Ed} (h : es[k]? = some e) (hno : ¬ (cho V (es.take k) e.hd.toNat < 0 ∧ att V e = true)) : chs V (es.take (k + 1)) N = chs V (es.take k) N := by
  unfold chs
  apply List.map_congr_left
  intro i _
  rw [cho_take h, if_neg]
  rintro ⟨h1, h2⟩
  simp only [isC, Bool.and_eq_true, decide_eq_true_eq] at h2
  exact hno ⟨by rw [h2.1]; exact h1, h2.2⟩
theorem chs_set {V : Nat → Vl} {es : List Ed} {N k n : Nat} {e : Ed} (h : es[k]? = some e) (hn : e.hd.toNat = n) (h1 : cho V (es.take k) n < 0) (h2 : att V e = true) : (chs V (es.take k) N).set n (k : Int) = chs V (es.take (k + 1)) N := by
  apply List.ext_getElem?
  intro i
  rw [List.getElem?_set, chs_len]
  by_cases hi : i < N
  · rw [chs_at hi, chs_at hi, cho_take h]
    by_cases e1 : n = i
    · subst e1
      rw [if_pos rfl, if_pos hi, if_pos ⟨h1, by simp only [isC, hn, h2]; simp⟩]
    · rw [if_neg e1, if_neg]
      rintro ⟨_, h4⟩
      simp only [isC, Bool.and_eq_true, decide_eq_true_eq] at h4
      exact e1 (hn.symm.trans h4.1)
  · by_cases e1 : n = i
    · subst e1
      rw [if_pos rfl, if_neg hi, List.getElem?_eq_none (by rw [chs_len]; omega)]
    · rw [if_neg e1, List.getElem?_eq_none (by rw [chs_len]; omega), List.getElem?_eq_none (by rw [chs_len]; omega)]
theorem cho_pos {V : Nat → Vl} {es : List Ed} {i : Nat} (h : 0 ≤ cho V es i) : ∃ (k : Nat) (e : Ed), cho V es i = (k : Int) ∧ es[k]? = some e ∧ e.hd.toNat = i ∧ att V e = true ∧ ∀ (j : Nat) (e' : Ed), j < k → es[j]? = some e' → ¬ (e'.hd.toNat = i ∧ att V e' = true) := by
  cases hf : es.findIdx? (isC V i) with
  | none => rw [cho_none hf] at h; omega
  | some k =>
    obtain ⟨hk, h1, h2⟩ := List.findIdx?_eq_some_iff_getElem.1 hf
    refine ⟨k, es[k], cho_some hf, List.getElem?_eq_getElem hk, ?_, ?_, fun j e' hj he' hc => ?_⟩
    · simp only [isC, Bool.and_eq_true, decide_eq_true_eq] at h1; exact h1.1
    · simp only [isC, Bool.and_eq_true, decide_eq_true_eq] at h1; exact h1.2
    · have := h2 j hj
      obtain ⟨hj', hee⟩ := List.getElem?_eq_some_iff.1 he'
      rw [hee] at this
      exact this (by simp only [isC, Bool.and_eq_true, decide_eq_true_eq]; exact hc)
theorem cho_neg {V : Nat → Vl} {es : List Ed} {i : Nat} (h : cho V es i < 0) : ∀ e ∈ es, ¬ (e.hd.toNat = i ∧ att V e = true) := by
  cases hf : es.findIdx? (isC V i) with
  | some k => rw [cho_some hf] at h; omega
  | none =>
    intro e he hc
    have := List.findIdx?_eq_none_iff.1 hf e he
    simp only [isC, hc.1, hc.2] at this
    simp at this
theorem cho_le {V : Nat → Vl} {es : List Ed} {i k : Nat} {e : Ed} (he : es[k]? = some e) (h1 : e.hd.toNat = i) (h2 : att V e = true) : 0 ≤ cho V es i ∧ cho V es i ≤ k := by
  have h0 : 0 ≤ cho V es i := by
    by_cases hn : cho V es i < 0
    · exact absurd ⟨h1, h2⟩ (cho_neg hn e (List.mem_of_getElem? he))
    · omega
  refine ⟨h0, ?_⟩
  obtain ⟨k', e', hk', _, _, _, hlt⟩ := cho_pos h0
  rw [hk']
  by_cases hl : k < k'
  · exact absurd ⟨h1, h2⟩ (hlt k e hl he)
  · omega
end Go.Proofs.Ytbalhkbpmahkgaa

namespace Go.Proofs.Ytbalhkbpmahkgaa
open Go.RowKit

theorem OkN {N : Nat} {es : List Ed} (h : ∀ e ∈ es, e.Ok N) {e : Ed} (he : e ∈ es) : 0 ≤ e.cost := (h e he).cost.1
/-- The next greater value. -/
def vsucc (v : Vl) : Vl := if v.s < 1099511627776 ∧ v.c < 1099511627776 then ⟨v.c, v.s + 1⟩ else ⟨v.c + 1, 0⟩
theorem vsucc_nrm {v : Vl} (h : Nrm v) (hc : v.c < 1099511627776) : Nrm (vsucc v) := by
  obtain ⟨⟨h1, h2, h3, h4⟩, h5⟩ := h
  unfold vsucc
  split
  · exact ⟨⟨by simp; omega, by simp; omega, by simp; omega, by simp; omega⟩, fun e => by simp at e; omega⟩
  · exact ⟨⟨by simp; omega, by simp; omega, by simp, by simp⟩, fun _ => rfl⟩
theorem vsucc_le {v x : Vl} (hx : Nrm x) (hc : v.c < 1099511627776) (h : vle v x) (hne : x ≠ v) : vle (vsucc v) x := by
  have hne' : ¬ (x.c = v.c ∧ x.s = v.s) := fun e => hne (Vl.ext' e.1 e.2)
  obtain ⟨⟨h1, h2, h3, h4⟩, h5⟩ := hx
  unfold vle at h
  unfold vsucc vle
  split <;> simp only <;> omega
theorem vsucc_ge (v : Vl) : vle v (vsucc v) := by
  by_cases h : v.s < 1099511627776 ∧ v.c < 1099511627776
  · have e : vsucc v = ⟨v.c, v.s + 1⟩ := if_pos h
    rw [e]
    exact .inr ⟨rfl, by show v.s ≤ v.s + 1; omega⟩
  · have e : vsucc v = ⟨v.c + 1, 0⟩ := if_neg h
    rw [e]
    exact .inl (by show v.c < v.c + 1; omega)
theorem vsucc_gt (v : Vl) : ¬ vle (vsucc v) v := by
  unfold vsucc vle
  split <;> simp only <;> omega
/-- A finite value is attained. -/
theorem Sol.attained {es : List Ed} {V : Nat → Vl} {N : Nat} (h : Sol es V) (hes : ∀ e ∈ es, e.Ok N) {i : Nat} (hc : (V i).c < 1099511627776) : ∃ e ∈ es, e.hd.toNat = i ∧ att V e = true := by
  apply Classical.byContradiction
  intro hno
  have hgt : ∀ e ∈ es, e.hd.toNat = i → ev V e ≠ V i := fun e he h1 h2 => hno ⟨e, he, h1, att_iff.2 ⟨by rw [h1]; exact hc, by rw [h1]; exact h2⟩⟩
  have hge : ∀ j, vle (V j) (if j = i then vsucc (V i) else V j) := fun j => by
    split
    · rename_i e
      subst e
      exact vsucc_ge _
    · exact vle.refl _
  have hU : NrmF (fun j => if j = i then vsucc (V i) else V j) := fun j => by
    simp only
    split
    · exact vsucc_nrm (h.nrm i) hc
    · exact h.nrm j
  have hP : PreFix es (fun j => if j = i then vsucc (V i) else V j) := fun e he => by
    have hm : vle (ev V e) (ev (fun j => if j = i then vsucc (V i) else V j) e) := ev_mono h.nrm hU (hes e he).cost.1 fun t _ => hge _
    refine vle.trans ?_ hm
    simp only
    split
    · rename_i e1
      have h0 := h.pre e he
      rw [e1] at h0
      exact vsucc_le (ev_nrm h.nrm (hes e he).cost.1) hc h0 (hgt e he e1)
    · exact h.pre e he
  have := h.top _ hU hP i
  simp only at this
  rw [if_pos trivial] at this
  exact vsucc_gt _ this
/-- A number for the order of values. -/
def vrk (v : Vl) : Nat := (v.c * 2199023255552 + v.s).toNat
theorem vrk_lt {a b : Vl} (ha : Ordy a) (hb : Ordy b) (h : a.c < b.c ∨ (a.c = b.c ∧ a.s < b.s)) : vrk a < vrk b := by
  unfold Ordy at *
  unfold vrk
  omega
/-- Values that no hyperedge undercuts and that are attained, where finite, are the least ones. -/
theorem Sol.of_att {es : List Ed} {V : Nat → Vl} {N : Nat} (hes : ∀ e ∈ es, e.Ok N) (hn : NrmF V) (hp : PreFix es V) (hs : ∀ i, (V i).s < 1099511627776) (ha : ∀ i, (V i).c < 1099511627776 → ∃ e ∈ es, e.hd.toNat = i ∧ att V e = true) : Sol es V := by
  refine ⟨hn, hp, fun U hU hP => ?_⟩
  have key : ∀ (r : Nat) (i : Nat), vrk (V i) < r → vle (U i) (V i) := by
    intro r
    induction r with
    | zero => intro i h; omega
    | succ r ih =>
      intro i hi
      by_cases hc : (V i).c < 1099511627776
      · obtain ⟨e, he, h1, h2⟩ := ha i hc
        rw [att_iff, h1] at h2
        have h3 := hP e he
        rw [h1] at h3
        refine h3.trans ?_
        rw [← h2.2]
        refine ev_mono hU hn (hes e he).cost.1 fun t ht => ih _ ?_
        have h4 := comb_sup' (cost := e.cost) (l := tlv V e.ts) (v := V t.toNat) (hes e he).cost.1 (tlv_ord hn _) (List.mem_map.2 ⟨t, ht, rfl⟩) (by show (ev V e).c < _; rw [h2.2]; exact h2.1) (by show (ev V e).s < _; rw [h2.2]; exact hs i)
        have h5 : vrk (V t.toNat) < vrk (ev V e) := vrk_lt (hn _).1 (ev_nrm hn (hes e he).cost.1).1 h4
        rw [h2.2] at h5
        omega
      · rw [(hn i).eq_top (by omega)]
        exact (hU i).le_top
  exact fun i => key _ i (Nat.lt_succ_self _)
/-- Removing hyperedges lowers no value. -/
theorem Sol.sub {es es' : List Ed} {V V' : Nat → Vl} (h : Sol es V) (h' : Sol es' V') (hs : ∀ e ∈ es', e ∈ es) (i : Nat) : vle (V i) (V' i) :=
  h'.top V h.nrm (fun e he => h.pre e (hs e he)) i
/-- Raising costs lowers no value. -/
theorem Sol.raise {es es' : List Ed} {V V' : Nat → Vl} (h : Sol es V) (h' : Sol es' V') (hs : ∀ e' ∈ es', ∃ e ∈ es, e.hd = e'.hd ∧ e.ts = e'.ts ∧ 0 ≤ e.cost ∧ e.cost ≤ e'.cost) (i : Nat) : vle (V i) (V' i) :=
  h'.top V h.nrm (fun e' he' => by
    obtain ⟨e, he, h1, h2, h3, h4⟩ := hs e' he'
    rw [← h1]
    refine (h.pre e he).trans ?_
    unfold ev
    rw [← h2]
    exact comb_mono_cost h3 h4 (tlv_ord h.nrm _)) i
/-- The chosen hyperedges alone have the same values. -/
theorem Sol.chosen {es es' : List Ed} {V : Nat → Vl} {N : Nat} (h : Sol es V) (hes : ∀ e ∈ es, e.Ok N) (hs : ∀ i, (V i).s < 1099511627776) (hsub : ∀ e ∈ es', e ∈ es) (hall : ∀ i k, cho V es i = (k : Nat) → ∃ e, es[k]? = some e ∧ e ∈ es') : Sol es' V := by
  refine Sol.of_att (fun e he => hes e (hsub e he)) h.nrm (fun e he => h.pre e (hsub e he)) hs fun i hc => ?_
  obtain ⟨e, he, h1, h2⟩ := h.attained hes hc
  obtain ⟨k0, hk0⟩ := List.getElem?_of_mem he
  obtain ⟨k, e', hk, he', h3, h4, _⟩ := cho_pos (cho_le hk0 h1 h2).1
  obtain ⟨e2, he2, hm⟩ := hall i k hk
  rw [he'] at he2
  injection he2 with he2
  subst he2
  exact ⟨e', hm, h3, h4⟩
/-- Nodes that are not derivable have no finite value. -/
theorem Sol.outside {es : List Ed} {V : Nat → Vl} {N : Nat} (h : Sol es V) (hes : ∀ e ∈ es, e.Ok N) (D : Nat → Prop) (hD : ∀ e ∈ es, (∀ t ∈ e.ts, D t.toNat) → D e.hd.toNat) {i : Nat} (hi : ¬ D i) : V i = vtop := by
  classical
  have hge : ∀ j, vle (V j) (if D j then V j else vtop) := fun j => by
    split
    · exact vle.refl _
    · exact (h.nrm j).le_top
  have hU : NrmF (fun j => if D j then V j else vtop) := fun j => by
    simp only
    split
    · exact h.nrm j
    · exact Nrm.top
  have hP : PreFix es (fun j => if D j then V j else vtop) := fun e he => by
    have hm : vle (ev V e) (ev (fun j => if D j then V j else vtop) e) := ev_mono h.nrm hU (hes e he).cost.1 fun t _ => hge _
    by_cases hd : D e.hd.toNat
    · simp only [if_pos hd]
      exact (h.pre e he).trans hm
    · simp only [if_neg hd]
      have hx : ∃ t ∈ e.ts, ¬ D t.toNat := by
        apply Classical.byContradiction
        intro hno
        exact hd (hD e he fun t ht => Classical.byContradiction fun hn => hno ⟨t, ht, hn⟩)
      obtain ⟨t, ht, hn⟩ := hx
      have h1 : ¬ (ev (fun j => if D j then V j else vtop) e).c < 1099511627776 := fun hlt => by
        have := ev_fin hU (hes e he).cost.1 hlt ht
        simp only [if_neg hn] at this
        exact absurd this (by decide)
      rw [(ev_nrm (e := e) hU (hes e he).cost.1).eq_top (by omega)]
      exact vle.refl _
  have := h.top _ hU hP i
  simp only [if_neg hi] at this
  exact ((h.nrm i).le_top).antisymm this
/-- Beyond the nodes nothing is finite. -/
theorem Sol.beyond {es : List Ed} {V : Nat → Vl} {N : Nat} (h : Sol es V) (hes : ∀ e ∈ es, e.Ok N) {i : Nat} (hi : N ≤ i) : V i = vtop :=
  h.outside hes (fun j => j < N) (fun e he _ => by have := (hes e he).hd; omega) (by omega)
end Go.Proofs.Ytbalhkbpmahkgaa

namespace Go.Proofs.Ytbalhkbpmahkgaa
open Go.RowKit

def sumC (l : List Vl) : Int := (l.map Vl.c).sum
def sumS (l : List Vl) : Int := (l.map Vl.s).sum
theorem sums_pos : ∀ {l : List Vl}, (∀ v ∈ l, Ordy v) → 0 ≤ sumC l ∧ 0 ≤ sumS l
  | [], _ => ⟨Int.le_refl _, Int.le_refl _⟩
  | v :: l, h => by
    have ih := sums_pos (l := l) (fun u hu => h u (by simp [hu]))
    have hv := h v (by simp)
    unfold Ordy at hv
    simp only [sumC, sumS, List.map_cons, List.sum_cons] at *
    omega
theorem fold_closed : ∀ {l : List Vl} {a b : Int}, 0 ≤ a → 0 ≤ b → (∀ v ∈ l, Ordy v) → l.foldl vstep ⟨min a 1099511627776, min b 1099511627776⟩ = ⟨min (a + sumC l) 1099511627776, min (b + sumS l) 1099511627776⟩
  | [], a, b, _, _, _ => by simp [sumC, sumS]
  | v :: l, a, b, ha, hb, h => by
    have hv := h v (by simp)
    unfold Ordy at hv
    have ih := fold_closed (l := l) (a := a + v.c) (b := b + v.s) (by omega) (by omega) (fun u hu => h u (by simp [hu]))
    have e : vstep ⟨min a 1099511627776, min b 1099511627776⟩ v = ⟨min (a + v.c) 1099511627776, min (b + v.s) 1099511627776⟩ := by
      refine Vl.ext' ?_ ?_
      · simp only [vstep]; omega
      · simp only [vstep]; omega
    rw [List.foldl_cons, e, ih]
    simp only [sumC, sumS, List.map_cons, List.sum_cons, Int.add_assoc]
theorem comb_closed {cost : Int} {l : List Vl} (h0 : 0 ≤ cost) (h : ∀ v ∈ l, Ordy v) : comb cost l = if cost + sumC l < 1099511627776 then ⟨cost + sumC l, min (1 + sumS l) 1099511627776⟩ else vtop := by
  have h1 := fold_closed (l := l) (a := cost) (b := 1) h0 (by omega) h
  have e : (⟨min cost 1099511627776, 1⟩ : Vl) = ⟨min cost 1099511627776, min 1 1099511627776⟩ := rfl
  unfold comb vfin
  rw [e, h1]
  by_cases hl : cost + sumC l < 1099511627776
  · rw [if_pos hl, if_neg (by simp only; omega)]
    exact Vl.ext' (by simp only; omega) rfl
  · rw [if_neg hl, if_pos (by simp only; omega)]
end Go.Proofs.Ytbalhkbpmahkgaa

namespace Go.Proofs.Ytbalhkbpmahkgaa
open Go.RowKit

/-- Saturation. -/
def mn (x : Int) : Int := min x 1099511627776
theorem mn_add {a b : Int} (hb : 0 ≤ b) : mn (mn a + b) = mn (a + b) := by unfold mn; omega
theorem mn_le (x : Int) : mn x ≤ 1099511627776 := by unfold mn; omega
theorem mn_nn {x : Int} (h : 0 ≤ x) : 0 ≤ mn x := by unfold mn; omega
theorem mn_mono {x y : Int} (h : x ≤ y) : mn x ≤ mn y := by unfold mn; omega
theorem mn_le_self (x : Int) : mn x ≤ x := by unfold mn; omega
theorem mn_id {x : Int} (h : x ≤ 1099511627776) : mn x = x := by unfold mn; omega
/-- The sum of the values of all tails but the one at place k, of the first i. -/
def oth (I : Nat → Int) (ts : List Int) (k : Int) : Nat → Int
  | 0 => 0
  | i + 1 => oth I ts k i + (if (i : Int) = k then 0 else I (ts[i]?.getD 0).toNat)
theorem oth_nn {I : Nat → Int} (hI : ∀ i, 0 ≤ I i) (ts : List Int) (k : Int) : ∀ i, 0 ≤ oth I ts k i
  | 0 => Int.le_refl _
  | i + 1 => by
    have := oth_nn hI ts k i
    have := hI (ts[i]?.getD 0).toNat
    unfold oth
    split <;> omega
theorem oth_mono {I J : Nat → Int} (h : ∀ i, I i ≤ J i) (ts : List Int) (k : Int) : ∀ i, oth I ts k i ≤ oth J ts k i
  | 0 => Int.le_refl _
  | i + 1 => by
    have := oth_mono h ts k i
    have := h (ts[i]?.getD 0).toNat
    unfold oth
    split <;> omega
/-- No tail left out. -/
theorem oth_all (I : Nat → Int) (ts : List Int) : ∀ i, i ≤ ts.length → oth I ts (-1) i = ((ts.take i).map fun t => I t.toNat).sum
  | 0, _ => rfl
  | i + 1, h => by
    have hi : ts[i]? = some ts[i] := List.getElem?_eq_getElem (by omega)
    rw [List.take_add_one, hi, List.map_append, List.sum_append, ← oth_all I ts i (by omega)]
    have : ¬ (i : Int) = -1 := by omega
    simp [oth, this, hi]
/-- One tail left out. -/
theorem oth_add (I : Nat → Int) (ts : List Int) {k : Nat} {t : Int} (hk : ts[k]? = some t) : ∀ i, oth I ts (k : Int) i + (if k < i then I t.toNat else 0) = oth I ts (-1) i
  | 0 => by simp [oth]
  | i + 1 => by
    have ih := oth_add I ts hk i
    have h1 : ¬ (i : Int) = -1 := by omega
    unfold oth
    rw [if_neg h1, ← ih]
    by_cases h2 : i = k
    · subst h2
      rw [if_pos rfl, if_pos (by omega), if_neg (by omega), hk]
      simp
    · rw [if_neg (by omega)]
      by_cases h3 : k < i
      · rw [if_pos h3, if_pos (by omega)]; omega
      · rw [if_neg h3, if_neg (by omega)]; omega
theorem oth_take {I : Nat → Int} {ts : List Int} {k : Nat} {t : Int} (hk : ts[k]? = some t) : oth I ts (k : Int) ts.length + I t.toNat = oth I ts (-1) ts.length := by
  have := oth_add I ts hk ts.length
  rwa [if_pos (List.getElem?_eq_some_iff.1 hk).1] at this
/-- The inside costs. -/
def inC (V : Nat → Vl) (i : Nat) : Int := (V i).c
theorem inC_ord {V : Nat → Vl} (h : NrmF V) (i : Nat) : 0 ≤ inC V i ∧ inC V i ≤ 1099511627776 := ⟨(h i).1.1, (h i).1.2.1⟩
theorem sumC_tlv (V : Nat → Vl) (ts : List Int) : sumC (tlv V ts) = oth (inC V) ts (-1) ts.length := by
  rw [oth_all _ _ _ (Nat.le_refl _), List.take_length]
  unfold sumC tlv inC
  rw [List.map_map]
  rfl
/-- The cost of what a hyperedge yields. -/
theorem ev_c {V : Nat → Vl} {e : Ed} (hV : NrmF V) (h0 : 0 ≤ e.cost) : (ev V e).c = mn (e.cost + oth (inC V) e.ts (-1) e.ts.length) := by
  unfold ev mn
  rw [comb_closed h0 (tlv_ord hV _), sumC_tlv]
  split <;> simp only [vtop] <;> omega

/-- What the hyperedge lets its tail at place k cost. -/
def rlx (I O : Nat → Int) (e : Ed) (k : Nat) : Int := mn (O e.hd.toNat + e.cost + oth I e.ts (k : Int) e.ts.length)
/-- A solution of the inequalities. -/
structure OPre (es : List Ed) (I : Nat → Int) (root : Int) (N : Nat) (O : Nat → Int) : Prop where
  ord : ∀ i, 0 ≤ O i ∧ O i ≤ 1099511627776
  root : ∀ i, i < N → (i : Int) = root → O i = 0
  le : ∀ e ∈ es, ∀ (k : Nat) (t : Int), e.ts[k]? = some t → O t.toNat ≤ rlx I O e k
/-- The greatest one. -/
structure OSol (es : List Ed) (I : Nat → Int) (root : Int) (N : Nat) (O : Nat → Int) : Prop where
  pre : OPre es I root N O
  out : ∀ i, N ≤ i → O i = 1099511627776
  top : ∀ G, OPre es I root N G → ∀ i, G i ≤ O i
section
variable {es : List Ed} {I O O' : Nat → Int} {root : Int} {N : Nat}
theorem OSol.uniq (h : OSol es I root N O) (h' : OSol es I root N O') : O = O' := funext fun i => by
  have := h.top O' h'.pre i
  have := h'.top O h.pre i
  omega
/-- Outside a set that holds the root and the tails of the hyperedges of its nodes all is infinite. -/
theorem OSol.outside (h : OSol es I root N O) (hI : ∀ i, 0 ≤ I i) (hc : ∀ e ∈ es, 0 ≤ e.cost) (D : Nat → Prop) (hr : ∀ i, i < N → (i : Int) = root → D i) (hD : ∀ e ∈ es, D e.hd.toNat → ∀ t ∈ e.ts, D t.toNat) {i : Nat} (hi : ¬ D i) : O i = 1099511627776 := by
  classical
  have hp : OPre es I root N (fun j => if D j then O j else 1099511627776) := by
    refine ⟨fun j => ?_, fun j hj hr' => ?_, fun e he k t hk => ?_⟩
    · have := h.pre.ord j
      split <;> simp_all
    · simp only [hr j hj hr', if_true]
      exact h.pre.root j hj hr'
    · have hle := h.pre.le e he k t hk
      unfold rlx at hle ⊢
      have ho := oth_nn hI e.ts k e.ts.length
      have hc' := hc e he
      by_cases h1 : D e.hd.toNat
      · simp only [h1, if_true, hD e he h1 t (List.mem_of_getElem? hk)]
        exact hle
      · simp only [h1, if_false]
        have := h.pre.ord t.toNat
        unfold mn
        split <;> omega
  have h1 := h.top _ hp i
  simp only [hi, if_false] at h1
  have := (h.pre.ord i).2
  omega
/-- Lower costs, lower insides: lower outsides. -/
theorem OSol.cheaper {es' : List Ed} {I' : Nat → Int} (h : OSol es I root N O) (h' : OSol es' I' root N O') (hI : ∀ i, I' i ≤ I i) (hs : ∀ e ∈ es, ∃ e' ∈ es', e'.hd = e.hd ∧ e'.ts = e.ts ∧ e'.cost ≤ e.cost) (i : Nat) : O' i ≤ O i := by
  refine h.top O' ⟨h'.pre.ord, h'.pre.root, fun e he k t hk => ?_⟩ i
  obtain ⟨e', he', h1, h2, h3⟩ := hs e he
  have h4 := h'.pre.le e' he' k t (by rw [h2]; exact hk)
  refine Int.le_trans h4 ?_
  unfold rlx
  apply mn_mono
  have := oth_mono hI e.ts k e.ts.length
  rw [h1, h2]
  omega
/-- Nothing is cheaper than the root's inside cost. -/
theorem OSol.through {V : Nat → Vl} {r : Nat} (h : OSol es (inC V) r N O) (hr : r < N) (hV : NrmF V) (hp : PreFix es V) (hc : ∀ e ∈ es, 0 ≤ e.cost) (i : Nat) : inC V r ≤ O i + inC V i := by
  have hG : OPre es (inC V) r N (fun i => max 0 (inC V r - inC V i)) := by
    refine ⟨fun i => ?_, fun i _ hi => ?_, fun e he k t hk => ?_⟩
    · have := inC_ord hV r
      have := inC_ord hV i
      try simp only
      omega
    · have : i = r := by omega
      subst this
      try simp only
      omega
    · have h1 := hp e he
      have h2 : (V e.hd.toNat).c ≤ (ev V e).c := by unfold vle at h1; omega
      rw [ev_c hV (hc e he), ← oth_take hk] at h2
      have h3 := mn_le_self (e.cost + (oth (inC V) e.ts k e.ts.length + inC V t.toNat))
      have h4 := inC_ord hV r
      have h5 := inC_ord hV t.toNat
      have h6 := inC_ord hV e.hd.toNat
      have h7 := oth_nn (fun i => (inC_ord hV i).1) e.ts k e.ts.length
      have h8 := hc e he
      have h9 : inC V e.hd.toNat = (V e.hd.toNat).c := rfl
      unfold rlx mn
      try simp only
      omega
  have := h.top _ hG i
  try simp only at this
  omega
/-- The cost of the least derivation through a hyperedge. -/
def eth (I O : Nat → Int) (e : Ed) : Int := mn (O e.hd.toNat + e.cost + oth I e.ts (-1) e.ts.length)
theorem OSol.edge {V : Nat → Vl} {r : Nat} (h : OSol es (inC V) r N O) (hr : r < N) (hV : NrmF V) (hp : PreFix es V) (hc : ∀ e ∈ es, 0 ≤ e.cost) {e : Ed} (he : e ∈ es) : inC V r ≤ eth (inC V) O e := by
  have h1 := h.through hr hV hp hc e.hd.toNat
  have h2 := hp e he
  have h3 : (V e.hd.toNat).c ≤ (ev V e).c := by unfold vle at h2; omega
  rw [ev_c hV (hc e he)] at h3
  have h4 := mn_le_self (e.cost + oth (inC V) e.ts (-1) e.ts.length)
  have h5 : inC V e.hd.toNat = (V e.hd.toNat).c := rfl
  have h6 := inC_ord hV r
  unfold eth mn
  omega
end
end Go.Proofs.Ytbalhkbpmahkgaa

namespace Go.Proofs.Ytbalhkbpmahkgaa
open Go.RowKit

theorem infoB1 : (Try.prog.info? 4).map (fun i => (i.zero, i.size, i.bytes)) = some (some (.bool false), 1, 1) := by kernel_rfl
theorem infoI1 : (Try.prog.info? 3).map (fun i => (i.zero, i.size, i.bytes)) = some (some (.int .i64 0), 1, 8) := by kernel_rfl
theorem infoS1 : (Try.prog.info? 28).map (fun i => (i.zero, i.size, i.bytes)) = some (some (.slice none 0 0), 1, 24) := by kernel_rfl
theorem made_one (z : Value) (n : Nat) : madeCells #[z] n = (List.replicate n z).toArray := by
  apply Array.toList_inj.1
  rw [toList_madeCells_one]
theorem made_bools (n : Nat) : madeCells #[.bool false] n = (bools (List.replicate n false)).toArray := by rw [made_one]; simp [bools]
theorem made_ints (n : Nat) : madeCells #[.int .i64 0] n = (ints (List.replicate n 0)).toArray := by rw [made_one]; simp [ints]
def noUr : Ur := ⟨none, 0, []⟩
theorem made_urs (n : Nat) : madeCells #[.slice none 0 0] n = (ursC (List.replicate n noUr)).toArray := by rw [made_one]; simp [ursC, noUr]
theorem mk_bools (n : Nat) (hn : n ≤ 1000000) (w : World) : (Instr.makeSlice 49 (.int .i64 (n : Int)) (.int .i64 (n : Int))).run Try.prog w = .ok (.slice (some ⟨w.heap.size, 0, none⟩) n n) (w.alloc (.cells (bools (List.replicate n false)).toArray 4)) := by
  rw [← made_bools]
  exact run_make_row' (P := Try.prog) 49 4 (.bool false) 1 Try.underlying49 infoB1 rfl .i64 .i64 n (by omega) (by omega) w
theorem mk_ints (n : Nat) (hn : n ≤ 1000000) (w : World) : (Instr.makeSlice 28 (.int .i64 (n : Int)) (.int .i64 (n : Int))).run Try.prog w = .ok (.slice (some ⟨w.heap.size, 0, none⟩) n n) (w.alloc (.cells (ints (List.replicate n 0)).toArray 3)) := by
  rw [← made_ints]
  exact run_make_row' (P := Try.prog) 28 3 (.int .i64 0) 8 Try.underlying28 infoI1 rfl .i64 .i64 n (by omega) (by omega) w
theorem mk_urs (n : Nat) (hn : n ≤ 1000000) (w : World) : (Instr.makeSlice 63 (.int .i64 (n : Int)) (.int .i64 (n : Int))).run Try.prog w = .ok (.slice (some ⟨w.heap.size, 0, none⟩) n n) (w.alloc (.cells (ursC (List.replicate n noUr)).toArray 28)) := by
  rw [← made_urs]
  exact run_make_row' (P := Try.prog) 63 28 (.slice none 0 0) 24 Try.underlying63 infoS1 rfl .i64 .i64 n (by omega) (by omega) w
theorem Blk.drew1 {w : World} {g : Nat} {t : TypeId} {cs : Array Value} (h : Blk w g t cs) : Blk w.drew g t cs := h
theorem below_drew1 {B : Nat} {w w' : World} (h : Below B w w') : Below B w w'.drew := below_drewN h 1
/-- The parts as they are made, wherever they lie. -/
structure Parts (w0 w : World) (sb va sa oa ua N M : Nat) (E : Option Addr) (ce : Nat) : Prop where
  kS : Blk w sb 84 #[.int .i64 N, .slice E M ce, .slice (some ⟨va, 0, none⟩) N N, .slice (some ⟨sa, 0, none⟩) N N, .slice (some ⟨oa, 0, none⟩) M M, .slice (some ⟨ua, 0, none⟩) N N, .pointer none]
  kV : Blk w va 38 (vls (List.replicate N ⟨0, 0⟩)).toArray
  kB : Blk w sa 4 (bools (List.replicate N false)).toArray
  kO : Blk w oa 3 (ints (List.replicate M 0)).toArray
  kU : Blk w ua 28 (ursC (List.replicate N noUr)).toArray
  lo : w0.heap.size ≤ sb ∧ w0.heap.size ≤ va ∧ w0.heap.size ≤ sa ∧ w0.heap.size ≤ oa ∧ w0.heap.size ≤ ua
  below : Below w0.heap.size w0 w
theorem S_alloc {w : World} {b : Nat} {x y : Value} (h : w.cell? ⟨b, 0, none⟩ = some x ∧ w.cell? ⟨b, 1, none⟩ = some y) (o : Obj) : (w.alloc o).cell? ⟨b, 0, none⟩ = some x ∧ (w.alloc o).cell? ⟨b, 1, none⟩ = some y :=
  ⟨(World.cell?_alloc_lt w o _ (World.block_lt_of_cell? w _ h.1)).trans h.1, (World.cell?_alloc_lt w o _ (World.block_lt_of_cell? w _ h.2)).trans h.2⟩
theorem S_alloc_drew {w : World} {b : Nat} {x y : Value} (h : w.cell? ⟨b, 0, none⟩ = some x ∧ w.cell? ⟨b, 1, none⟩ = some y) (o : Obj) : ((w.alloc o).drew).cell? ⟨b, 0, none⟩ = some x ∧ ((w.alloc o).drew).cell? ⟨b, 1, none⟩ = some y := S_alloc h o

end Go.Proofs.Ytbalhkbpmahkgaa

namespace Go.Proofs.Ytbalhkbpmahkgaa
open Go.RowKit

theorem parts_sm {w0 w1 w2 w3 : World} {sb va sa oa ua q N ce : Nat} {E : Option Addr} {es : List Ed} {F : Nat → Prop} (hP : Parts w1 w2 sb va sa oa ua N es.length E ce) (hE : HG w1 w0.heap.size E es.length es) (h01 : w0.heap.size ≤ w1.heap.size)
    (hq : QB w3 w2.heap.size q F [] 0 0) (hb : Below w2.heap.size w2 w3) :
    SM (w3.setCell ⟨sb, 6, none⟩ (.pointer (some ⟨q, 0, none⟩))) ⟨w0.heap.size, sb, va, sa, oa, ua, q, E, ce, N, es, List.replicate N noUr⟩ F (List.replicate N ⟨0, 0⟩) (List.replicate N false) (List.replicate es.length 0) [] 0 := by
  have hs12 := hP.below.size
  have hs23 := hb.size
  have hn : ∀ {g : Nat}, g < w2.heap.size → ¬ F g := fun h hf => by have := (hq.2 _ hf).1; omega
  have e1 : va ≠ sb := Blk.ne_ hP.kV hP.kS (by decide)
  have e2 : sa ≠ sb := Blk.ne_ hP.kB hP.kS (by decide)
  have e3 : oa ≠ sb := Blk.ne_ hP.kO hP.kS (by decide)
  have e4 : ua ≠ sb := Blk.ne_ hP.kU hP.kS (by decide)
  have hlo := hP.lo
  refine ⟨⟨?_, hn hP.kS.lt⟩, ⟨(hP.kV.below hb hP.kV.lt).far e1 _, hn hP.kV.lt⟩, ⟨(hP.kB.below hb hP.kB.lt).far e2 _, hn hP.kB.lt⟩, ⟨(hP.kO.below hb hP.kO.lt).far e3 _, hn hP.kO.lt⟩, ⟨(hP.kU.below hb hP.kU.lt).far e4 _, hn hP.kU.lt⟩, by simp, by simp, by simp, by simp, fun u hu => ?_, ?_, ?_, ?_, ?_⟩
  · have := (hP.kS.below hb hP.kS.lt).set_ 6 (.pointer (some ⟨q, 0, none⟩))
    simpa [SA.cells] using this
  · obtain ⟨_, rfl⟩ := List.mem_replicate.1 hu
    intro j k hk
    simp [noUr] at hk
  · have hq' : QB w3 w0.heap.size q F [] 0 0 := ⟨hq.1, fun k hk => ⟨by have := (hq.2 k hk).1; omega, (hq.2 k hk).2⟩⟩
    exact hq'.farCell (hn hP.kS.lt) _
  · exact ((hE.below (hP.below.mono h01)).below (hb.mono (by omega))).farCell (by show w0.heap.size ≤ sb; omega) _
  · show w0.heap.size ≤ _
    simp only [World.setCell]
    simp
    omega
  · exact ⟨by show w0.heap.size ≤ sb; omega, by show w0.heap.size ≤ va; omega, by show w0.heap.size ≤ sa; omega, by show w0.heap.size ≤ oa; omega, by show w0.heap.size ≤ ua; omega⟩
theorem parts_below {w0 w1 w2 w3 : World} {sb va sa oa ua N M ce : Nat} {E : Option Addr} (hP : Parts w1 w2 sb va sa oa ua N M E ce) (h1 : Below w0.heap.size w0 w1) (hb : Below w2.heap.size w2 w3) (v : Value) : Below w0.heap.size w0 (w3.setCell ⟨sb, 6, none⟩ v) := by
  have := h1.size
  have := hP.below.size
  exact ((h1.trans (hP.below.mono (by omega))).trans (hb.mono (by omega))).setCell (by have := hP.lo.1; show w0.heap.size ≤ sb; omega) _
/-- A block of its own beside the solver's. -/
theorem PB.stp {a : SA} {w w' : World} {F G : Nat → Prop} {g : Nat} {t : TypeId} {cs : Array Value} (h : PB w F g t cs) (hs : Stp a w F w' G) (h1 : g ≠ a.va) (h2 : g ≠ a.sa) (h3 : g ≠ a.oa) : PB w' G g t cs :=
  ⟨h.1.touch hs.touch (fun hg => by
    rcases hg with e | e | e | e
    · exact h.2 e
    · exact h1 e
    · exact h2 e
    · exact h3 e), fun hg => by rcases hs.new g hg with e | e; exact h.2 e; have := h.1.lt; omega⟩

/-- The values and the edges as the first loop leaves them. -/
def vini (N i : Nat) : List Vl := List.replicate i vtop ++ List.replicate (N - i) ⟨0, 0⟩
def eini (N i : Nat) : List Int := List.replicate i (-1) ++ List.replicate (N - i) 0
theorem vini_len {N i : Nat} (h : i ≤ N) : (vini N i).length = N := by simp [vini]; omega
theorem eini_len {N i : Nat} (h : i ≤ N) : (eini N i).length = N := by simp [eini]; omega
theorem ini_set {α : Type} {x y : α} {N i : Nat} (h : i < N) : (List.replicate i x ++ List.replicate (N - i) y).set i x = List.replicate (i + 1) x ++ List.replicate (N - (i + 1)) y := by
  rw [List.set_append_right _ _ (by simp)]
  rw [show N - i = (N - (i + 1)) + 1 by omega, List.replicate_succ (n := N - (i + 1)), List.length_replicate, Nat.sub_self, List.set_cons_zero, List.replicate_succ' (n := i)]
  simp
theorem ini_end {α : Type} (x y : α) (N : Nat) : List.replicate N x ++ List.replicate (N - N) y = List.replicate N x := by simp
theorem SM.cs {w : World} {a : SA} {F : Nat → Prop} {V : List Vl} {S : List Bool} {O : List Int} {L : List Ent} {nx N M : Nat} (h : SM w a F V S O L nx) (hN : a.N = N) (hM : a.es.length = M) :
    w.cell? ⟨a.sb, 2, none⟩ = some (.slice (some ⟨a.va, 0, none⟩) N N) ∧ w.cell? ⟨a.sb, 3, none⟩ = some (.slice (some ⟨a.sa, 0, none⟩) N N) ∧ w.cell? ⟨a.sb, 4, none⟩ = some (.slice (some ⟨a.oa, 0, none⟩) M M) ∧ w.cell? ⟨a.sb, 5, none⟩ = some (.slice (some ⟨a.ua, 0, none⟩) N N) ∧ w.cell? ⟨a.sb, 6, none⟩ = some (.pointer (some ⟨a.q, 0, none⟩)) := by
  subst hN hM
  exact ⟨h.kS.1.cell 2, h.kS.1.cell 3, h.kS.1.cell 4, h.kS.1.cell 5, h.kS.1.cell 6⟩
theorem SM.nes {w : World} {a : SA} {F : Nat → Prop} {V : List Vl} {S : List Bool} {O : List Int} {L : List Ent} {nx : Nat} (h : SM w a F V S O L nx) :
    a.va ≠ a.sb ∧ a.sa ≠ a.sb ∧ a.oa ≠ a.sb ∧ a.ua ≠ a.sb ∧ a.va ≠ a.sa ∧ a.va ≠ a.oa ∧ a.va ≠ a.ua ∧ a.sa ≠ a.oa ∧ a.sa ≠ a.ua ∧ a.oa ≠ a.ua :=
  ⟨Blk.ne_ h.kV.1 h.kS.1 (by decide), Blk.ne_ h.kB.1 h.kS.1 (by decide), Blk.ne_ h.kO.1 h.kS.1 (by decide), Blk.ne_ h.kU.1 h.kS.1 (by decide), Blk.ne_ h.kV.1 h.kB.1 (by decide), Blk.ne_ h.kV.1 h.kO.1 (by decide), Blk.ne_ h.kV.1 h.kU.1 (by decide), Blk.ne_ h.kB.1 h.kO.1 (by decide), Blk.ne_ h.kB.1 h.kU.1 (by decide), Blk.ne_ h.kO.1 h.kU.1 (by decide)⟩
theorem PB.set_ints {w : World} {F : Nat → Prop} {g : Nat} {t : TypeId} {l : List Int} (h : PB w F g t (ints l).toArray) (k : Nat) (x : Int) : PB (w.setCell ⟨g, k, none⟩ (.int .i64 x)) F g t (ints (l.set k x)).toArray := by
  refine ⟨?_, h.2⟩
  have := h.1.set_ k (.int .i64 x)
  have e : (ints (l.set k x)).toArray = (ints l).toArray.setIfInBounds k (.int .i64 x) := by simp [ints, List.map_set]
  rw [e]
  exact this
/-- A store into a block that is not the solver's. -/
theorem SM.farCell {w : World} {a : SA} {F : Nat → Prop} {V : List Vl} {S : List Bool} {O : List Int} {L : List Ent} {nx g k : Nat} (h : SM w a F V S O L nx) (hF : ¬ F g) (hb : a.base ≤ g) (h1 : a.sb ≠ g) (h2 : a.va ≠ g) (h3 : a.sa ≠ g) (h4 : a.oa ≠ g) (h5 : a.ua ≠ g) (hr : ∀ u ∈ a.us, ∀ b, u.A = some b → b.block ≠ g) (x : Value) : SM (w.setCell ⟨g, k, none⟩ x) a F V S O L nx := by
  refine ⟨h.kS.far h1 _, h.kV.far h2 _, h.kB.far h3 _, h.kO.far h4 _, h.kU.far h5 _, h.lV, h.lS, h.lO, h.lU, fun u hu j k' hk => ?_, h.hQ.farCell hF _, h.hE.farCell hb _, by simpa [World.setCell] using h.bs, h.lo⟩
  obtain ⟨b, off, e1, e2, e3, e4, e5, e6⟩ := h.rU u hu j k' hk
  refine ⟨b, off, e1, e2, e3, e4, e5, (World.cell?_setCell_far _ _ _ _ ?_).trans e6⟩
  have := hr u hu _ e1
  exact fun e => this e.symm
end Go.Proofs.Ytbalhkbpmahkgaa

namespace Go.Proofs.Ytbalhkbpmahkgaa
open Go.RowKit

def SA.wu (a : SA) (us : List Ur) : SA := { a with us := us }
theorem SA.wu_self (a : SA) : a.wu a.us = a := rfl
def nats (l : List Nat) : List Value := ints (l.map fun k : Nat => (k : Int))
theorem nats_append (l : List Nat) (k : Nat) : nats (l ++ [k]) = nats l ++ [.int .i64 (k : Nat)] := by simp [nats, ints]
theorem nats_at (l : List Nat) {j k : Nat} (h : l[j]? = some k) : (nats l)[j]? = some (.int .i64 (k : Nat)) := by simp [nats, ints, h]
def Ur.sl (u : Ur) : Value := .slice u.A u.l.length u.c
structure URows (w : World) (b0 : Nat) (us : List Ur) : Prop where
  own : ∀ (i : Nat) (u : Ur), us[i]? = some u → w.ownsRow b0 3 1 u.sl u.l.length (nats u.l)
  apart : ∀ (i j : Nat) (u u' : Ur) (b : Nat), i ≠ j → us[i]? = some u → us[j]? = some u' → u.sl.ownBlock = some b → u'.sl.ownBlock ≠ some b
section
variable {w w1 : World} {b0 : Nat} {us : List Ur} {a : SA} {F : Nat → Prop} {V : List Vl} {S : List Bool} {O : List Int} {L : List Ent} {nx : Nat}
theorem URows.start (w : World) (b0 N : Nat) : URows w b0 (List.replicate N noUr) :=
  ⟨fun i u hu => by
    obtain ⟨_, rfl⟩ := List.mem_replicate.1 (List.mem_of_getElem? hu)
    exact World.ownsRow_nil _ _ _ _, fun i j u u' b _ hu _ hb => by
    obtain ⟨_, rfl⟩ := List.mem_replicate.1 (List.mem_of_getElem? hu)
    simp [noUr, Ur.sl, Value.ownBlock] at hb⟩
theorem own_ge {base : Nat} {e : TypeId} {size n k : Nat} {v : Value} {xs : List Value} (h : w.ownsRow base e size v n xs) (hv : v.ownBlock = some k) : base ≤ k := by
  rcases h.2 with ⟨rfl, _⟩ | ⟨g, cap, cur, rfl, hb, hgg, rest⟩
  · simp [Value.ownBlock] at hv
  · have : g = k := by simpa [Value.ownBlock] using hv
    omega
theorem URows.rowF (h : URows w b0 us) {u : Ur} (hu : u ∈ us) (h1 : a.va < b0) (h2 : a.sa < b0) (h3 : a.oa < b0) (hF : ∀ k, F k → k < b0) : RowF w a F u := fun j k hk => by
  obtain ⟨i, hi⟩ := List.getElem?_of_mem hu
  have own := h.own i u hi
  have hR : Reads w w.heap.size 1 u.A u.l.length (nats u.l) := Reads.of_own own
  have hl := (List.getElem?_eq_some_iff.1 hk).1
  obtain ⟨b, off, hA, hb, hc⟩ := hR.2 (by omega)
  have hge : b0 ≤ b := own_ge own (by simp [Ur.sl, hA, Value.ownBlock])
  refine ⟨b, off, hA, fun hf => ?_, by omega, by omega, by omega, hc j _ (nats_at _ hk)⟩
  have := hF b hf
  omega
theorem URows.touch (h : URows w b0 us) {X : Nat → Prop} (ht : Touch X w w1) (hX : ∀ k, X k → k < b0) : URows w1 b0 us :=
  ⟨fun i u hu => own_touch (h.own i u hu) ht fun k hk hx => by have := own_ge (h.own i u hu) hk; have := hX k hx; omega, h.apart⟩
theorem URows.below (h : URows w b0 us) (hb : Below w.heap.size w w1) : URows w1 b0 us := h.touch (X := fun _ => False) (Touch.of_below hb) (fun _ hk => hk.elim)
/-- What lies below b0 is kept. -/
theorem SM.belowB (h : SM w a F V S O L nx) (hb : Below b0 w w1) (h0 : b0 ≤ w.heap.size) (h1 : a.sb < b0 ∧ a.va < b0 ∧ a.sa < b0 ∧ a.oa < b0 ∧ a.ua < b0) (hF : ∀ k, F k → k < b0) (hr : ∀ u ∈ a.us, RowF w1 a F u) : SM w1 a F V S O L nx := by
  have hlo := h.lo
  refine ⟨⟨h.kS.1.below hb h1.1, h.kS.2⟩, ⟨h.kV.1.below hb h1.2.1, h.kV.2⟩, ⟨h.kB.1.below hb h1.2.2.1, h.kB.2⟩, ⟨h.kO.1.below hb h1.2.2.2.1, h.kO.2⟩, ⟨h.kU.1.below hb h1.2.2.2.2, h.kU.2⟩, h.lV, h.lS, h.lO, h.lU, hr, ?_, h.hE.below (hb.mono (by omega)), Nat.le_trans h.bs hb.size, h.lo⟩
  exact h.hQ.far (N := fun k => b0 ≤ k) ⟨hb.os, hb.tape, hb.output, hb.size, fun k hk hn => hb.block k (by omega)⟩ (fun k hk hn => by have := hF k hk; omega)
theorem ursC_set (us : List Ur) (t : Nat) (u : Ur) : (ursC (us.set t u)).toArray = (ursC us).toArray.setIfInBounds t u.sl := by simp [ursC, List.map_set, Ur.sl]
/-- A row is grown and laid down again. -/
theorem rows_append {t gg cap k : Nat} {u : Ur} (h : URows w b0 us) (hu : us[t]? = some u) (hgrow : w.grownBy w1 u.sl.ownBlock) (hown : w1.ownsRow b0 3 1 (.slice (some ⟨gg, 0, none⟩) (u.l.length + 1) cap) (u.l.length + 1) (nats u.l ++ [.int .i64 (k : Nat)]))
    (hat : u.sl.ownBlock = some gg ∨ w.heap.size ≤ gg) {ua : Nat} (hua : ua < b0) (x : Value) : URows (w1.setCell ⟨ua, t, none⟩ x) b0 (us.set t ⟨some ⟨gg, 0, none⟩, cap, u.l ++ [k]⟩) := by
  have hl := (List.getElem?_eq_some_iff.1 hu).1
  have hgg : ∀ i u', i ≠ t → us[i]? = some u' → u'.sl.ownBlock ≠ some gg := fun i u' hi hu' => by
    rcases hat with h1 | h1
    · exact h.apart t i u u' gg (fun e => hi e.symm) hu hu' h1
    · intro e
      have := own_lt (h.own i u' hu') e
      omega
  have hT : Touch (fun k => k = ua) w1 (w1.setCell ⟨ua, t, none⟩ x) := (Touch.refl (fun k => k = ua) w1).setCell (p := ⟨ua, t, none⟩) (.inl rfl) x
  refine ⟨fun i u' hu' => ?_, fun i j u' u'' b hij hu' hu'' hb => ?_⟩
  · rw [List.getElem?_set] at hu'
    by_cases hi : t = i
    · rw [if_pos hi, if_pos (by omega)] at hu'
      injection hu' with hu'
      subst hu'
      have hsl : (⟨some ⟨gg, 0, none⟩, cap, u.l ++ [k]⟩ : Ur).sl = .slice (some ⟨gg, 0, none⟩) (u.l.length + 1) cap := by simp [Ur.sl]
      rw [hsl]
      have hlen : (⟨some ⟨gg, 0, none⟩, cap, u.l ++ [k]⟩ : Ur).l.length = u.l.length + 1 := by simp
      rw [hlen]
      show World.ownsRow _ _ _ _ _ _ (nats (u.l ++ [k]))
      rw [nats_append]
      exact own_touch hown hT fun b hb e => by
        have := own_ge hown hb
        omega
    · rw [if_neg hi] at hu'
      have o1 := h.own i u' hu'
      have o2 := o1.kept hgrow (by
        cases hb : u'.sl.ownBlock with
        | none => exact .inl rfl
        | some b => exact .inr (fun e => h.apart i t u' u b (fun e => hi e.symm) hu' hu hb (by rw [← e])))
      exact own_touch o2 hT fun b hb e => by
        have := own_ge o2 hb
        omega
  · rw [List.getElem?_set] at hu' hu''
    by_cases hi : t = i
    · rw [if_pos hi, if_pos (by omega)] at hu'
      injection hu' with hu'
      subst hu'
      rw [if_neg (by omega)] at hu''
      have : gg = b := by simpa [Ur.sl, Value.ownBlock] using hb
      subst this
      exact hgg j u'' (by omega) hu''
    · rw [if_neg hi] at hu'
      by_cases hj : t = j
      · rw [if_pos hj, if_pos (by omega)] at hu''
        injection hu'' with hu''
        subst hu''
        intro e
        have : gg = b := by simpa [Ur.sl, Value.ownBlock] using e
        subst this
        exact hgg i u' (by omega) hu' hb
      · rw [if_neg hj] at hu''
        exact h.apart i j u' u'' b hij hu' hu'' hb
theorem SM.append {t gg cap k : Nat} {u : Ur} (h : SM w (a.wu us) F V S O L nx) (hr : URows w b0 us) (hu : us[t]? = some u) (hgrow : w.grownBy w1 u.sl.ownBlock) (hown : w1.ownsRow b0 3 1 (.slice (some ⟨gg, 0, none⟩) (u.l.length + 1) cap) (u.l.length + 1) (nats u.l ++ [.int .i64 (k : Nat)]))
    (hat : u.sl.ownBlock = some gg ∨ w.heap.size ≤ gg) (h0 : b0 ≤ w.heap.size) (h1 : a.sb < b0 ∧ a.va < b0 ∧ a.sa < b0 ∧ a.oa < b0 ∧ a.ua < b0) (hF : ∀ k, F k → k < b0) :
    SM (w1.setCell ⟨a.ua, t, none⟩ (.slice (some ⟨gg, 0, none⟩) (u.l.length + 1) cap)) (a.wu (us.set t ⟨some ⟨gg, 0, none⟩, cap, u.l ++ [k]⟩)) F V S O L nx ∧ URows (w1.setCell ⟨a.ua, t, none⟩ (.slice (some ⟨gg, 0, none⟩) (u.l.length + 1) cap)) b0 (us.set t ⟨some ⟨gg, 0, none⟩, cap, u.l ++ [k]⟩) ∧ Below a.base w (w1.setCell ⟨a.ua, t, none⟩ (.slice (some ⟨gg, 0, none⟩) (u.l.length + 1) cap)) ∧ Below b0 w w1 := by
  have hl := (List.getElem?_eq_some_iff.1 hu).1
  have hR := rows_append hr hu hgrow hown hat h1.2.2.2.2 (.slice (some ⟨gg, 0, none⟩) (u.l.length + 1) cap)
  have hrow : ∀ k, u.sl.ownBlock = some k → b0 ≤ k := fun k hk => own_ge (hr.own t u hu) hk
  have hB : Below b0 w w1 := (Below.refl b0 w).grown hgrow h0 hrow
  have hT : Touch (fun k => k = a.ua) w1 (w1.setCell ⟨a.ua, t, none⟩ (.slice (some ⟨gg, 0, none⟩) (u.l.length + 1) cap)) := (Touch.refl (fun k => k = a.ua) w1).setCell (p := ⟨a.ua, t, none⟩) (.inl rfl) _
  have hB2 : Below b0 w w1 := hB
  have hu' : ∀ k, a.ua = k → k < b0 := fun k e => by omega
  obtain ⟨n1, n2, n3, n4, n5, n6, n7, n8, n9, n10⟩ := h.nes
  have hlo := h.lo
  have hlo' : a.base ≤ a.sb ∧ a.base ≤ a.va ∧ a.base ≤ a.sa ∧ a.base ≤ a.oa ∧ a.base ≤ a.ua := hlo
  have hab : a.base ≤ b0 := by omega
  refine ⟨⟨⟨(h.kS.1.below hB h1.1).far (fun e => n4 e.symm) _, h.kS.2⟩, ⟨(h.kV.1.below hB h1.2.1).far n7 _, h.kV.2⟩, ⟨(h.kB.1.below hB h1.2.2.1).far n9 _, h.kB.2⟩, ⟨(h.kO.1.below hB h1.2.2.2.1).far n10 _, h.kO.2⟩, ⟨?_, h.kU.2⟩, h.lV, h.lS, h.lO, ?_, fun u' hu' => ?_, ?_, ?_, ?_, h.lo⟩, hR, ?_, hB⟩
  · show Blk _ _ _ (ursC (us.set t _)).toArray
    rw [ursC_set]
    have h3 := (h.kU.1.below hB h1.2.2.2.2).set_ t (.slice (some ⟨gg, 0, none⟩) (u.l.length + 1) cap)
    have e : (⟨some ⟨gg, 0, none⟩, cap, u.l ++ [k]⟩ : Ur).sl = .slice (some ⟨gg, 0, none⟩) (u.l.length + 1) cap := by simp [Ur.sl]
    rw [e]
    exact h3
  · show (us.set t _).length = _
    rw [List.length_set]
    exact h.lU
  · exact hR.rowF hu' h1.2.1 h1.2.2.1 h1.2.2.2.1 hF
  · exact (h.hQ.far (N := fun k => b0 ≤ k) ⟨hB.os, hB.tape, hB.output, hB.size, fun k hk hn => hB.block k (by omega)⟩ (fun k hk hn => by have := hF k hk; omega)).farCell h.kU.2 _
  · exact HG.farCell (B := a.base) (p := ⟨a.ua, t, none⟩) (h.hE.below (hB.mono hab)) hlo'.2.2.2.2 _
  · show a.base ≤ _
    have := hB.size
    simp only [World.setCell]
    simp
    omega
  · exact (hB.mono hab).setCell (p := ⟨a.ua, t, none⟩) hlo'.2.2.2.2 _
end
end Go.Proofs.Ytbalhkbpmahkgaa

namespace Go.Proofs.Ytbalhkbpmahkgaa
open Go.RowKit

def tsO (es : List Ed) (k : Nat) : List Int := (es[k]?.map Ed.ts).getD []
theorem tsO_at {es : List Ed} {k : Nat} {e : Ed} (h : es[k]? = some e) : tsO es k = e.ts := by simp [tsO, h]
/-- The rows behind k hyperedges and i tails of the next one. -/
def Usp (N : Nat) (us : List Ur) (es : List Ed) (k i : Nat) : Prop :=
  ∀ n, n < N → ∃ u, us[n]? = some u ∧ u.l.length ≤ 4 * k + i ∧ ∀ k', u.l.count k' = if k' < k then (tsO es k').count (n : Int) else if k' = k then ((tsO es k).take i).count (n : Int) else 0
theorem usp_start (N : Nat) (es : List Ed) : Usp N (List.replicate N noUr) es 0 0 := fun n hn => by
  refine ⟨noUr, by rw [List.getElem?_replicate, if_pos hn], by simp [noUr], fun k' => ?_⟩
  rw [if_neg (Nat.not_lt_zero _)]
  split <;> simp [noUr]
theorem usp_step {N : Nat} {us : List Ur} {es : List Ed} {k i t : Nat} {u : Ur} (h : Usp N us es k i) (ht : (tsO es k)[i]? = some (t : Int)) (htN : t < N) (hu : us[t]? = some u) (A : Option Addr) (c : Nat) :
    Usp N (us.set t ⟨A, c, u.l ++ [k]⟩) es k (i + 1) := fun n hn => by
  obtain ⟨u', hu', hl, hc⟩ := h n hn
  have htl := (List.getElem?_eq_some_iff.1 hu).1
  have htake : (tsO es k).take (i + 1) = (tsO es k).take i ++ [(t : Int)] := by rw [List.take_add_one, ht]; rfl
  by_cases hnt : t = n
  · subst hnt
    rw [hu] at hu'
    injection hu' with hu'
    subst hu'
    refine ⟨⟨A, c, u.l ++ [k]⟩, by rw [List.getElem?_set, if_pos rfl, if_pos htl], by simp; omega, fun k' => ?_⟩
    have := hc k'
    rw [htake, List.count_append, List.count_append]
    show List.count k' u.l + _ = _
    rw [this]
    by_cases h1 : k' < k
    · rw [if_pos h1, if_pos h1]
      have : ¬ k = k' := by omega
      simp [this]
    · rw [if_neg h1, if_neg h1]
      by_cases h2 : k' = k
      · subst h2; simp
      · have : ¬ k = k' := fun e => h2 e.symm
        simp [h2, this]
  · refine ⟨u', by rw [List.getElem?_set, if_neg hnt]; exact hu', by omega, fun k' => ?_⟩
    rw [hc k', htake, List.count_append]
    have : ¬ t = n := hnt
    have e : List.count (n : Int) [(t : Int)] = 0 := by
      rw [List.count_eq_zero]
      simp
      omega
    rw [e]
    rfl
theorem usp_next {N : Nat} {us : List Ur} {es : List Ed} {k i : Nat} (h : Usp N us es k i) (hi : i = (tsO es k).length) (h4 : i ≤ 4) : Usp N us es (k + 1) 0 := fun n hn => by
  obtain ⟨u, hu, hl, hc⟩ := h n hn
  refine ⟨u, hu, by omega, fun k' => ?_⟩
  rw [hc k']
  by_cases h1 : k' < k
  · rw [if_pos h1, if_pos (by omega)]
  · rw [if_neg h1]
    by_cases h2 : k' = k
    · subst h2
      rw [if_pos rfl, if_pos (by omega), hi, List.take_length]
    · rw [if_neg h2, if_neg (by omega)]
      split <;> simp
theorem usp_end {N : Nat} {us : List Ur} {es : List Ed} (h : Usp N us es es.length 0) {n : Nat} (hn : n < N) : ∃ u, us[n]? = some u ∧ u.l.length ≤ 4 * es.length ∧ (∀ k ∈ u.l, k < es.length) ∧ ∀ k e, es[k]? = some e → u.l.count k = e.ts.count (n : Int) := by
  obtain ⟨u, hu, hl, hc⟩ := h n hn
  refine ⟨u, hu, by omega, fun k hk => ?_, fun k e he => ?_⟩
  · have h1 := List.count_pos_iff.2 hk
    rw [hc k] at h1
    by_cases h2 : k < es.length
    · exact h2
    · rw [if_neg h2] at h1
      split at h1 <;> simp at h1
  · rw [hc k, if_pos (List.getElem?_eq_some_iff.1 he).1, tsO_at he]
def oini (es : List Ed) (k : Nat) : List Int := (es.take k).map (fun e => (e.ts.length : Int)) ++ List.replicate (es.length - k) 0
theorem oini_len {es : List Ed} {k : Nat} (h : k ≤ es.length) : (oini es k).length = es.length := by simp [oini]; omega
theorem oini_set {es : List Ed} {k : Nat} {e : Ed} (h : es[k]? = some e) : (oini es k).set k (e.ts.length : Int) = oini es (k + 1) := by
  have hk := (List.getElem?_eq_some_iff.1 h).1
  unfold oini
  rw [List.set_append_right _ _ (by simp; omega)]
  rw [List.take_add_one, h]
  rw [show es.length - k = (es.length - (k + 1)) + 1 by omega, List.replicate_succ]
  have e2 : k - ((es.take k).map fun e => (e.ts.length : Int)).length = 0 := by simp; omega
  rw [e2]
  simp
theorem oini_end (es : List Ed) : oini es es.length = es.map fun e => (e.ts.length : Int) := by simp [oini]
theorem nats_one (l : List Nat) {u : Value} (h : u ∈ nats l) : u.oneCell' = true := by
  simp only [nats, ints, List.mem_map] at h
  obtain ⟨x, _, rfl⟩ := h
  rfl
end Go.Proofs.Ytbalhkbpmahkgaa

namespace Go.Proofs.Ytbalhkbpmahkgaa
open Go.RowKit

def posV : Value → Bool
  | .int _ o => decide (0 < o)
  | _ => false
def qlen (w : World) (q : Nat) : Nat := match w.cell? ⟨q, 1, none⟩ with
  | some (.slice _ n _) => n
  | _ => 0
def posn (w : World) (g : Nat) : Nat := match w.heap[g]? with
  | some (.cells cs _ _) => cs.toList.countP posV
  | _ => 0
def meas (w : World) (a : SA) : Nat := qlen w a.q + posn w a.oa
theorem meas_eq {w : World} {a : SA} {F : Nat → Prop} {V : List Vl} {S : List Bool} {O : List Int} {L : List Ent} {nx : Nat} (h : SM w a F V S O L nx) : meas w a = L.length + opn O := by
  have h1 : qlen w a.q = L.length := by
    obtain ⟨l, f, ⟨A, c, b, K, _⟩, _, hp, _⟩ := h.hQ.1
    have k1 := K.cell 1
    simp at k1
    unfold qlen
    rw [k1, ← hp.length_eq]
  have h2 : posn w a.oa = opn O := by
    have hO := h.kO.1
    unfold Blk at hO
    unfold posn opn
    rw [hO]
    simp only [ints, List.countP_map]
    rfl
  unfold meas
  omega
section
variable {N j nx : Nat} {es : List Ed} {V : List Vl} {S : List Bool} {O : List Int} {L : List Ent} {M : Vl}
theorem Inv.obd (h : Inv N es j [] V S O L M) (hl : O.length = es.length) (hes : ∀ e ∈ es, e.Ok N) : ∀ o ∈ O, 0 ≤ o ∧ o ≤ 1000 := fun o ho => by
  obtain ⟨k, hk⟩ := List.getElem?_of_mem ho
  have hkl := (List.getElem?_eq_some_iff.1 hk).1
  have he := List.getElem?_eq_getElem (show k < es.length by omega)
  have hc := h.cnt k _ he
  rw [hk] at hc
  injection hc with hc
  have h4 := (hes _ (List.mem_of_getElem? he)).few
  have h5 : cntU S es[k] ≤ es[k].ts.length := List.countP_le_length
  simp at hc
  omega
theorem Inv.vord (h : Inv N es j [] V S O L M) : ∀ v ∈ V, Ordy v := fun v hv => by
  obtain ⟨i, hi⟩ := List.getElem?_of_mem hv
  have := (h.nV i).1
  unfold gv at this
  rw [hi] at this
  exact this
end
theorem popq_first {w : World} {F : Nat → Prop} {base q nx ck : Nat} {L : List Ent} (h : QB w base q F L nx ck) (hL : L ≠ []) : ∃ m L', IsMin m L ∧ L.Perm (m :: L') := by
  obtain ⟨l, f, h1, h2, h3, h4, h5⟩ := h.1
  have hl : 0 < l.length := by rw [h3.length_eq]; exact List.length_pos_iff.2 hL
  have hm := List.getElem?_eq_getElem hl
  exact ⟨_, _, heap_min h4 h3 hm, h3.symm.trans (get_perm' hm)⟩
theorem opn_le (O : List Int) : opn O ≤ O.length := List.countP_le_length
end Go.Proofs.Ytbalhkbpmahkgaa

namespace Go.Proofs.Ytbalhkbpmahkgaa
open Go.RowKit

theorem run_eql_vl (w : World) (a b x y : Int) :
    (binOp .eql 38 (.agg #[.int .i64 a, .int .i64 b]) (.agg #[.int .i64 x, .int .i64 y])).run Try.prog w = .ok (.bool (decide (a = x) && decide (b = y))) w := by
  simp only [binOp]
  by_cases h1 : a = x
  · by_cases h2 : b = y <;> simp [go_sem, Op.equal, Op.maxDepth, h1, h2]
  · simp [go_sem, Op.equal, Op.maxDepth, h1]
theorem run_neq_vl (w : World) (a b x y : Int) :
    (binOp .neq 38 (.agg #[.int .i64 a, .int .i64 b]) (.agg #[.int .i64 x, .int .i64 y])).run Try.prog w = .ok (.bool (!(decide (a = x) && decide (b = y)))) w := by
  simp only [binOp]
  by_cases h1 : a = x
  · by_cases h2 : b = y <;> simp [go_sem, Op.equal, Op.maxDepth, h1, h2]
  · simp [go_sem, Op.equal, Op.maxDepth, h1]
/-- What Solve returns: the least values and the first hyperedges that attain them. -/
def SolvePost (w : World) (N : Nat) (es : List Ed) (e : Ending) (w' : World) : Prop := ∃ (va ea : Nat) (V : List Vl), e = .returned (.tuple #[.slice (some ⟨va, 0, none⟩) N N, .slice (some ⟨ea, 0, none⟩) N N]) ∧ V.length = N ∧ Blk w' va 38 (vls V).toArray ∧ Blk w' ea 3 (ints (chs (gv V) es N)).toArray ∧ Sol es (gv V) ∧ w.heap.size ≤ va ∧ w.heap.size ≤ ea ∧ Below w.heap.size w w'
end Go.Proofs.Ytbalhkbpmahkgaa

namespace Go.Proofs.Ytbalhkbpmahkgaa
open Go.RowKit

theorem infoVl3 : (Try.prog.info? 38).map (fun i => (i.zero, i.size, i.bytes)) = some (some (.agg #[.int .i64 0, .int .i64 0]), 2, 16) := infoVl
/-- What a function that returns a list of values in new memory leaves. -/
def RetVls (l : List Vl) (w : World) (e : Ending) (w' : World) : Prop := ∃ A c, e = .returned (.slice A l.length c) ∧ Reads w' w'.heap.size 2 A l.length (vls l) ∧ Below w.heap.size w w'
theorem vls_push {w wr w1 : World} {base : Nat} {v : Value} {acc : List Vl} {t : Vl} {v' : Value} (hb : Below base w wr) (hbase : base ≤ w.heap.size)
    (h : w1.ownsRow base 38 2 v' (acc.length + 1) (vls acc ++ t.cells)) (hg : wr.grownBy w1 v.ownBlock) (hown : wr.ownsRow base 38 2 v acc.length (vls acc)) :
    w1.ownsRow base 38 2 v' (acc ++ [t]).length (vls (acc ++ [t])) ∧ Below base w w1 := by
  refine ⟨?_, hb.grown hg (by have := hb.size; omega) (fun k hk => (hown.lt k hk).1)⟩
  rw [vls_append, List.length_append]
  simpa [vls] using h
theorem tlv_snoc {V : Nat → Vl} {ts : List Int} {i : Nat} {t : Int} (h : ts[i]? = some t) : tlv V (ts.take (i + 1)) = tlv V (ts.take i) ++ [V t.toNat] := by
  rw [List.take_add_one, h]
  simp [tlv]
set_option maxHeartbeats 1000000 in
theorem rtails_any (w : World) (B nv cv : Nat) (Av : Option Addr) (V : List Vl) (hd cost l0 l1 : Int) (A : Option Addr) (c : Nat) (ts : List Int) (hV : Reads w B 2 Av nv (vls V)) (hR : Reads w B 1 A ts.length (ints ts)) (hB : B ≤ w.heap.size)
    (hts : ∀ t ∈ ts, 0 ≤ t ∧ t < nv) (hfew : ts.length ≤ 1000) :
    Calls Try.prog 37 #[.agg #[.int .i64 hd, .slice A ts.length c, .int .i64 cost, .int .i64 l0, .int .i64 l1], .slice Av nv cv] w (RetVls (tlv (gv V) ts) w) := by
  obtain ⟨i0, hi0, hz0, hz1, hz2⟩ := info_parts infoVl3
  have HV := Lib.hid (hV.more hB)
  have HR := Lib.hid (hR.more hB)
  have HT := Lib.hid hts
  obtain ⟨n, hn⟩ : ∃ n, ts.length = n := ⟨_, rfl⟩
  rw [hn] at HR hfew ⊢
  have HN := Lib.hid hn
  clear hV hR hts hn
  go_enter Try.func37, Try.ntmps37
  go_wp2_with fail
  have hb0 : Below w.heap.size w (w.alloc (.cells #[.int .i64 hd, .slice A n c, .int .i64 cost, .int .i64 l0, .int .i64 l1] 48)) := (Below.refl _ _).alloc (Nat.le_refl _) _
  go_loopw [5, 6] (fun v a wr => ∃ i : Nat, i ≤ n ∧ a = .int .i64 i ∧ Hid (wr.ownsRow (w.heap.size + 1) 38 2 v (tlv (gv V) (ts.take i)).length (vls (tlv (gv V) (ts.take i)))) ∧
      Hid (Blk wr w.heap.size 48 #[.int .i64 hd, .slice A n c, .int .i64 cost, .int .i64 l0, .int .i64 l1]) ∧ Hid (Below (w.heap.size + 1) (w.alloc (.cells #[.int .i64 hd, .slice A n c, .int .i64 cost, .int .i64 l0, .int .i64 l1] 48)) wr)) (fun _ a _ => n - (intOf a).toNat)
  case atStart => exact ⟨0, Nat.zero_le _, rfl, by simp [tlv, vls]; exact World.ownsRow_nil _ _ _ _, Blk.new' _ _ _ rfl, Below.refl _ _⟩
  case round =>
    obtain ⟨i, hi, rfl, HO, HK, HB⟩ := hrel
    have b1 := HK.out.cell 1
    simp at b1
    have hsz := HB.out.size
    simp only [World.size_alloc] at hsz
    have HBW : Hid (Below w.heap.size w wr) := hb0.trans (HB.out.mono (by omega))
    by_cases hlt : i < n
    case pos =>
      have hltD : decide (i < n) = true := by simp [hlt]
      obtain ⟨b, off, hA, hb, p0⟩ := (HR.out.below HBW.out).int_at hlt
      obtain ⟨t, hti⟩ : ∃ t, ts[i]? = some t := ⟨_, List.getElem?_eq_getElem (by have := HN.out; omega)⟩
      rw [hti] at p0
      simp only [Option.getD_some] at p0
      obtain ⟨t0, t1⟩ := HT.out t (List.mem_of_getElem? hti)
      obtain ⟨j, rfl⟩ := Int.eq_ofNat_of_zero_le t0
      have hj : j < nv := by omega
      obtain ⟨bv, ov, v, hAv, hbv, hvj, q0, q1⟩ := (HV.out.below HBW.out).vl_at hj
      have hgj : gv V j = v := by simp [gv, hvj]
      have hsn := tlv_snoc (V := gv V) hti
      simp only [Int.toNat_natCast, hgj] at hsn
      have hlen : (tlv (gv V) (ts.take i)).length ≤ i := by simp [tlv]; omega
      obtain ⟨acc, hacc⟩ : ∃ acc, tlv (gv V) (ts.take i) = acc := ⟨_, rfl⟩
      rw [hacc] at HO hsn hlen
      have HSN := Lib.hid hsn
      subst hA hAv
      clear hti hvj hgj hsn hacc t0 t1
      go_wp2_with (at_builtin; go_must (refine wpList_append_own _ rfl _ _ 43 rfl (w.heap.size + 1) 38 i0 (.agg #[.int .i64 0, .int .i64 0]) 2 16 Try.underlying43 hi0 hz0 hz1 hz2 rfl (by decide) _ acc.length (vls acc) rfl ?hown ⟨wr.heap.size, 0, none⟩ 1 1 v.cells rfl rfl ?c1 ?c2 ?c3 ?c4 ?c5 ?_))
      case hown => exact HO.out.alloc _
      case c1 =>
        intro j u hj
        rw [Addr.add_lit, (Blk.new' _ _ _ (by simp)).cell]
        simpa [Vl.cells] using hj
      case c2 =>
        intro u hu
        simp [Vl.cells] at hu
        rcases hu with rfl | rfl <;> rfl
      case c3 => unfold maxLen; omega
      case c4 => omega
      case c5 => simp; omega
      · intro v' w2 hown' hgrow _
        have hlt0 := HO.out.lt
        have B2 : Blk w2 w.heap.size 48 #[.int .i64 hd, .slice (some ⟨b, off, none⟩) n c, .int .i64 cost, .int .i64 l0, .int .i64 l1] := (HK.out.alloc _).grown hgrow (fun e => by have := hlt0 _ e.symm; omega)
        have R := vls_push (t := v) (HB.out.alloc (by omega) _) (by simp) hown' hgrow (HO.out.alloc _)
        have HR1 := Lib.hid R
        clear hown' hgrow HO R hlt0
        go_wp2_with fail
        go_roundw
        case rel => exact ⟨i + 1, by omega, by go_num, by rw [HSN.out]; exact HR1.out.1, B2, HR1.out.2⟩
        case measure => simp [intOf]; omega
    case neg =>
      have hltD : decide (i < n) = false := by simp [hlt]
      obtain rfl : i = n := by omega
      have hte : ts.take i = ts := by rw [← HN.out]; exact List.take_length
      rw [hte] at HO
      have hown := HO.out
      obtain ⟨A', c', rfl, _, _⟩ := own_form hown
      clear hte hown
      go_wp2_with fail
      go_ret
      exact ⟨A', c', rfl, Reads.of_own HO.out, HBW.out⟩
end Go.Proofs.Ytbalhkbpmahkgaa

namespace Go.Proofs.Ytbalhkbpmahkgaa
open Go.RowKit

theorem parts_leaf {w1 wx : World} {sb va sa oa ua N M ce : Nat} {E : Option Addr}
    (k0 : Blk wx sb 84 #[.int .i64 N, .slice E M ce, .slice (some ⟨va, 0, none⟩) N N, .slice (some ⟨sa, 0, none⟩) N N, .slice (some ⟨oa, 0, none⟩) M M, .slice (some ⟨ua, 0, none⟩) N N, .pointer none])
    (kV : Blk wx va 38 (vls (List.replicate N ⟨0, 0⟩)).toArray) (kB : Blk wx sa 4 (bools (List.replicate N false)).toArray) (kO : Blk wx oa 3 (ints (List.replicate M 0)).toArray) (kU : Blk wx ua 28 (ursC (List.replicate N noUr)).toArray)
    (lo : w1.heap.size ≤ sb ∧ w1.heap.size ≤ va ∧ w1.heap.size ≤ sa ∧ w1.heap.size ≤ oa ∧ w1.heap.size ≤ ua) (below : Below w1.heap.size w1 wx) :
    ∃ sb' va sa oa ua : Nat, Value.pointer (some ⟨sb, 0, none⟩) = .pointer (some ⟨sb', 0, none⟩) ∧ Parts w1 wx sb' va sa oa ua N M E ce := ⟨sb, va, sa, oa, ua, rfl, ⟨k0, kV, kB, kO, kU, lo, below⟩⟩
end Go.Proofs.Ytbalhkbpmahkgaa

namespace Go.Proofs.Ytbalhkbpmahkgaa
open Go.RowKit

def inD (D : List Bool) (t : Int) : Bool := D[t.toNat]?.getD false
def allD (D : List Bool) (ts : List Int) : Bool := ts.all (inD D)
theorem allD_take {D : List Bool} {ts : List Int} {i : Nat} {t : Int} (h : ts[i]? = some t) : allD D (ts.take (i + 1)) = (allD D (ts.take i) && inD D t) := by
  rw [List.take_add_one, h]
  simp [allD]
theorem Blk.bool_at {w : World} {g : Nat} {t : TypeId} {l : List Bool} (h : Blk w g t (bools l).toArray) {k : Nat} {x : Bool} (hk : l[k]? = some x) : w.cell? ⟨g, k, none⟩ = some (.bool x) := by
  rw [h.cell]
  simp [bools, hk]
theorem Blk.bool_put {w : World} {g : Nat} {t : TypeId} {l : List Bool} (h : Blk w g t (bools l).toArray) (k : Nat) (x : Bool) : Blk (w.setCell ⟨g, k, none⟩ (.bool x)) g t (bools (l.set k x)).toArray := by
  have := h.set_ k (.bool x)
  have e : (bools (l.set k x)).toArray = (bools l).toArray.setIfInBounds k (.bool x) := by simp [bools, List.map_set]
  rw [e]
  exact this
def isF : Value → Bool
  | .bool false => true
  | _ => false
/-- How many nodes are out. -/
def outs (D : List Bool) : Nat := D.countP (! ·)
def bmeas (w : World) (g : Nat) : Nat := match w.heap[g]? with
  | some (.cells cs _ _) => cs.toList.countP isF
  | _ => 0
theorem bmeas_eq {w : World} {g : Nat} {t : TypeId} {D : List Bool} (h : Blk w g t (bools D).toArray) : bmeas w g = outs D := by
  unfold Blk at h
  unfold bmeas outs
  rw [h]
  simp only [bools, List.countP_map]
  congr 1
  funext b
  cases b <;> rfl
theorem outs_set : ∀ {D : List Bool} {n : Nat}, D[n]? = some false → outs (D.set n true) < outs D
  | [], _, h => by simp at h
  | b :: D, 0, h => by
    simp at h
    subst h
    simp [outs]
  | b :: D, n + 1, h => by
    simp at h
    have ih := outs_set h
    simp only [outs, List.set_cons_succ, List.countP_cons] at *
    omega
end Go.Proofs.Ytbalhkbpmahkgaa

namespace Go.Proofs.Ytbalhkbpmahkgaa
open Go.RowKit

theorem infoHe : (Try.prog.info? 48).map (fun i => (i.zero, i.size, i.bytes)) = some (some (.agg #[.int .i64 0, .slice none 0 0, .int .i64 0, .int .i64 0, .int .i64 0]), 5, 56) := by kernel_rfl
/-- A hyperedge of another cost. -/
def Ed.wc (e : Ed) (q : Int) : Ed := ⟨e.hd, e.ts, q, e.l0, e.l1, e.A, e.c⟩
theorem eds_wc : ∀ (l : List Ed) (k : Nat) (e : Ed) (q : Int), l[k]? = some e → (eds l).set (k * 5 + 2) (.int .i64 q) = eds (l.set k (e.wc q))
  | [], _, _, _, h => by simp at h
  | x :: l, 0, e, q, h => by
    simp at h
    subst h
    simp [eds, Ed.cells, Ed.wc]
  | x :: l, k + 1, e, q, h => by
    have ih := eds_wc l k e q (by simpa using h)
    have e1 : eds (x :: l) = x.cells ++ eds l := by simp [eds]
    have e2 : eds ((x :: l).set (k + 1) (e.wc q)) = x.cells ++ eds (l.set k (e.wc q)) := by simp [eds]
    have hx : x.cells.length = 5 := rfl
    rw [e1, e2, ← ih, List.set_append_right _ _ (by omega), hx]
    congr 2
    omega
theorem own_form' {w : World} {base n c : Nat} {A : Option Addr} {L : List Ed} (h : w.ownsRow base 48 5 (.slice A n c) n (eds L)) (hn : 0 < n) : ∃ g cur, A = some ⟨g, 0, none⟩ ∧ Blk w g 48 cur ∧ n ≤ c ∧ base ≤ g := by
  rcases h.2 with ⟨hv, h0⟩ | ⟨g, cap, cur, hv, hb, hg, h1, _⟩
  · omega
  · injection hv with h2 h3 h4
    subst h2 h4
    exact ⟨g, cur, rfl, hg, h1, hb⟩
/-- A row of the call's own, whose tails lie where others' do. -/
theorem HG.of_own' {w : World} {base c B : Nat} {A : Option Addr} {L : List Ed} (h : w.ownsRow base 48 5 (.slice A L.length c) L.length (eds L)) (hB : B ≤ w.heap.size) (hs : ∀ e ∈ L, Reads w B 1 e.A e.ts.length (ints e.ts)) : HG w w.heap.size A L.length L :=
  ⟨Reads.of_own h, fun e he => (hs e he).more hB⟩
theorem up_mem {es : List Ed} {k : Nat} {e : Ed} {q : Int} (he : es[k]? = some e) {x : Ed} (hx : x ∈ es.set k (e.wc q)) : x = e.wc q ∨ x ∈ es := by
  rcases List.mem_or_eq_of_mem_set hx with h | h
  · exact .inr h
  · exact .inl h
theorem Sol.up {es : List Ed} {V V' : Nat → Vl} {k : Nat} {e : Ed} {q : Int} {N : Nat} (h : Sol es V) (h' : Sol (es.set k (e.wc q)) V') (hes : ∀ e ∈ es, e.Ok N) (he : es[k]? = some e) (hq : e.cost ≤ q) (i : Nat) : vle (V i) (V' i) :=
  h.raise h' (fun x hx => by
    rcases up_mem he hx with rfl | hm
    · exact ⟨e, List.mem_of_getElem? he, rfl, rfl, (hes e (List.mem_of_getElem? he)).cost.1, hq⟩
    · exact ⟨x, hm, rfl, rfl, (hes x hm).cost.1, Int.le_refl _⟩) i
end Go.Proofs.Ytbalhkbpmahkgaa
