/- The example of the document. -/
import Derived.Test.YtkeiakmfnammbaaKnBounded
import Derived.Test.YtkeiakmfnammbaaKnSolve
namespace Go.Proofs.Ytkeiakmfnammbaa
open Go.RowKit

theorem results_hg {fn : Func} {p : Tmp} (h : fn.results = #[.cell p 34]) {tmps : Array Value} {b o n c : Nat} {A : Option Addr} (hp : tmps.getD p undef = .pointer (some ⟨b, o, none⟩)) {w : World} {x : Int}
    (h0 : w.cell? ⟨b, o, none⟩ = some (.int .i64 x)) (h1 : w.cell? ⟨b, o + 1, none⟩ = some (.slice A n c)) : (results fn tmps).run Try.prog w = .ok (.agg #[.int .i64 x, .slice A n c]) w := by
  rw [results_cell h tmps _ hp]
  simp [go_sem, h0, h1]
/-- The example's hyperedges, wherever their tails lie. -/
def exE (a b : Nat) : List Ed := [⟨0, [], 5, 0, 0, none, 0⟩, ⟨1, [0, 0], 1, 0, 0, some ⟨a, 0, none⟩, 2⟩, ⟨0, [1], 0, 0, 0, some ⟨b, 0, none⟩, 1⟩, ⟨1, [], 2, 0, 0, none, 0⟩]
theorem exE_ok (a b : Nat) : ∀ e ∈ exE a b, e.Ok 2 := fun e he => by
  simp only [exE, List.mem_cons, List.not_mem_nil, or_false] at he
  rcases he with rfl | rfl | rfl | rfl
  · exact ⟨by decide, by decide, by decide, by decide⟩
  · exact ⟨show (0 : Int) ≤ 1 ∧ (1 : Int) < (2 : Nat) by decide, show (0 : Int) ≤ 1 ∧ (1 : Int) ≤ 1099511627776 by decide, show ∀ t ∈ ([0, 0] : List Int), 0 ≤ t ∧ t < (2 : Nat) by decide, show ([0, 0] : List Int).length ≤ 4 by decide⟩
  · exact ⟨show (0 : Int) ≤ 0 ∧ (0 : Int) < (2 : Nat) by decide, show (0 : Int) ≤ 0 ∧ (0 : Int) ≤ 1099511627776 by decide, show ∀ t ∈ ([1] : List Int), 0 ≤ t ∧ t < (2 : Nat) by decide, show ([1] : List Int).length ≤ 4 by decide⟩
  · exact ⟨by decide, by decide, by decide, by decide⟩
theorem exE_sol (a b : Nat) : Sol (exE a b) (gv [⟨2, 2⟩, ⟨2, 1⟩]) := by
  have hge : ∀ i, 2 ≤ i → gv [⟨2, 2⟩, ⟨2, 1⟩] i = vtop := fun i hi => by
    rw [gv, List.getElem?_eq_none (by simpa using hi)]; rfl
  have h0 : gv [⟨2, 2⟩, ⟨2, 1⟩] 0 = ⟨2, 2⟩ := rfl
  have h1 : gv [⟨2, 2⟩, ⟨2, 1⟩] 1 = ⟨2, 1⟩ := rfl
  have hcase : ∀ (P : Nat → Prop), P 0 → P 1 → (∀ i, 2 ≤ i → P i) → ∀ i, P i := fun P p0 p1 p2 i => by
    rcases i with _ | _ | i
    · exact p0
    · exact p1
    · exact p2 _ (by omega)
  refine Sol.of_att (exE_ok a b) ?_ ?_ ?_ ?_
  · refine hcase _ ⟨by rw [h0]; exact ⟨by decide, by decide, by decide, by decide⟩, by rw [h0]; decide⟩ ⟨by rw [h1]; exact ⟨by decide, by decide, by decide, by decide⟩, by rw [h1]; decide⟩ fun i hi => ?_
    rw [hge i hi]; exact Nrm.top
  · intro e he
    simp only [exE, List.mem_cons, List.not_mem_nil, or_false] at he
    rcases he with rfl | rfl | rfl | rfl
    · exact .inl (by decide)
    · exact .inl (show (gv [⟨2, 2⟩, ⟨2, 1⟩] 1).c < (comb 1 (tlv (gv [⟨2, 2⟩, ⟨2, 1⟩]) [0, 0])).c by decide)
    · exact .inr ⟨show (gv [⟨2, 2⟩, ⟨2, 1⟩] 0).c = (comb 0 (tlv (gv [⟨2, 2⟩, ⟨2, 1⟩]) [1])).c by decide, show (gv [⟨2, 2⟩, ⟨2, 1⟩] 0).s ≤ (comb 0 (tlv (gv [⟨2, 2⟩, ⟨2, 1⟩]) [1])).s by decide⟩
    · exact .inr ⟨by decide, by decide⟩
  · refine hcase _ (by decide) (by decide) fun i hi => ?_
    rw [hge i hi]; decide
  · refine hcase _ (fun _ => ⟨_, List.mem_of_getElem? (i := 2) rfl, rfl, att_iff.2 ⟨show (gv [⟨2, 2⟩, ⟨2, 1⟩] 0).c < 1099511627776 by decide, show comb 0 (tlv (gv [⟨2, 2⟩, ⟨2, 1⟩]) [1]) = gv [⟨2, 2⟩, ⟨2, 1⟩] 0 from rfl⟩⟩) (fun _ => ⟨_, List.mem_of_getElem? (i := 3) rfl, rfl, by decide⟩) fun i hi h => ?_
    rw [hge i hi] at h
    exact absurd h (by decide)
theorem exE_vals {a b : Nat} {V : List Vl} (h : Sol (exE a b) (gv V)) (hl : V.length = 2) : V = [⟨2, 2⟩, ⟨2, 1⟩] := by
  have hu := h.uniq (exE_sol a b)
  match V, hl with
  | [x, y], _ =>
    have h0 := congrFun hu 0
    have h1 := congrFun hu 1
    simp only [gv] at h0 h1
    simp at h0 h1
    rw [h0, h1]
theorem exE_chs (a b : Nat) : chs (gv [⟨2, 2⟩, ⟨2, 1⟩]) (exE a b) 2 = [2, 3] := rfl

set_option maxHeartbeats 1000000 in
theorem example_any (w : World) : Calls Try.prog 27 #[] w fun e w' => ∃ (a b : Nat) (E : Option Addr), e = .returned (.agg #[.int .i64 (2 : Nat), .slice E (exE a b).length 4]) ∧ HG w' w'.heap.size E (exE a b).length (exE a b) ∧ Below w.heap.size w w' := by
  go_enter Try.func27, Try.ntmps27
  go_wp2_with fail
  obtain ⟨N, hN⟩ : ∃ N, w.heap.size = N := ⟨_, rfl⟩
  have hb : Below w.heap.size w ((((w.alloc (.cells #[.int .i64 2, .slice (some ⟨N + 1 + 1 + 1, 0, none⟩) 4 4] 34)).alloc (.cells #[.int .i64 0, .int .i64 0] 3)).alloc (.cells #[.int .i64 1] 3)).alloc (.cells (eds (exE (N + 1) (N + 1 + 1))).toArray 43)) := ((((Below.refl _ _).alloc (Nat.le_refl _) _).alloc (by simp) _).alloc (by simp; omega) _).alloc (by simp; omega) _
  rw [hN] at hb ⊢
  have K0 : Blk ((((w.alloc (.cells #[.int .i64 2, .slice (some ⟨N + 1 + 1 + 1, 0, none⟩) 4 4] 34)).alloc (.cells #[.int .i64 0, .int .i64 0] 3)).alloc (.cells #[.int .i64 1] 3)).alloc (.cells (eds (exE (N + 1) (N + 1 + 1))).toArray 43)) N 34 #[.int .i64 2, .slice (some ⟨N + 1 + 1 + 1, 0, none⟩) 4 4] := (((Blk.new' w _ _ hN).alloc _).alloc _).alloc _
  have K1 : Blk ((((w.alloc (.cells #[.int .i64 2, .slice (some ⟨N + 1 + 1 + 1, 0, none⟩) 4 4] 34)).alloc (.cells #[.int .i64 0, .int .i64 0] 3)).alloc (.cells #[.int .i64 1] 3)).alloc (.cells (eds (exE (N + 1) (N + 1 + 1))).toArray 43)) (N + 1) 3 #[.int .i64 0, .int .i64 0] := ((Blk.new' _ _ _ (by simp; omega)).alloc _).alloc _
  have K2 : Blk ((((w.alloc (.cells #[.int .i64 2, .slice (some ⟨N + 1 + 1 + 1, 0, none⟩) 4 4] 34)).alloc (.cells #[.int .i64 0, .int .i64 0] 3)).alloc (.cells #[.int .i64 1] 3)).alloc (.cells (eds (exE (N + 1) (N + 1 + 1))).toArray 43)) (N + 1 + 1) 3 #[.int .i64 1] := (Blk.new' _ _ _ (by simp; omega)).alloc _
  have K3 : Blk ((((w.alloc (.cells #[.int .i64 2, .slice (some ⟨N + 1 + 1 + 1, 0, none⟩) 4 4] 34)).alloc (.cells #[.int .i64 0, .int .i64 0] 3)).alloc (.cells #[.int .i64 1] 3)).alloc (.cells (eds (exE (N + 1) (N + 1 + 1))).toArray 43)) (N + 1 + 1 + 1) 43 (eds (exE (N + 1) (N + 1 + 1))).toArray := Blk.new' _ _ _ (by simp; omega)
  refine bodyPost_ret (results_hg rfl rfl (K0.cell 0) (K0.cell 1)) rfl ⟨N + 1, N + 1 + 1, some ⟨N + 1 + 1 + 1, 0, none⟩, rfl, ⟨Reads.of_blk K3 K3.lt (by simp) rfl, fun e he => ?_⟩, hb⟩
  simp only [exE, List.mem_cons, List.not_mem_nil, or_false] at he
  rcases he with rfl | rfl | rfl | rfl
  · exact Reads.nil_
  · exact Reads.of_blk K1 K1.lt rfl rfl
  · exact Reads.of_blk K2 K2.lt rfl rfl
  · exact Reads.nil_

set_option maxRecDepth 100000 in
set_option maxHeartbeats 2000000 in
theorem awake_any (w : World) : Calls Try.prog 15 #[] w fun e w' => e = .returned (.bool true) ∧ Below w.heap.size w w' := by
  go_enter Try.func15, Try.ntmps15
  go_wp2_with fail
  refine (example_any w).mono ?_
  rintro e w1 ⟨a, b, E, rfl, hg, hb1⟩
  have HG1 := Lib.hid hg
  have HB1 := Lib.hid hb1
  clear hg hb1
  go_wp2_with fail
  refine (solve_any w1 2 4 w1.heap.size E (exE a b) HG1.out (Nat.le_refl _) (exE_ok a b) (by decide) (by simp [exE])).mono ?_
  rintro e w2 ⟨va, ea, V, rfl, hVl, KV, KE, hsol, _, _, hb2⟩
  have hV := exE_vals hsol hVl
  subst hV
  rw [exE_chs] at KE
  have HKV := Lib.hid KV
  have HKE := Lib.hid KE
  have HB2 : Hid (Below w.heap.size w w2) := HB1.out.trans (hb2.mono HB1.out.size)
  clear KV KE hsol hVl hb2 HG1
  go_upto_region 2 with fail
  have H9 : Hid (∀ w9, Below w2.heap.size w2 w9 → w9.cell? ⟨va, 0, none⟩ = some (.int .i64 2) ∧ w9.cell? ⟨va, 1, none⟩ = some (.int .i64 2) ∧ w9.cell? ⟨va, 2, none⟩ = some (.int .i64 2) ∧ w9.cell? ⟨va, 3, none⟩ = some (.int .i64 1) ∧ Below w2.heap.size w2 w9) := fun w9 h => by
    have K := HKV.out.below h HKV.out.lt
    exact ⟨K.cell 0, K.cell 1, K.cell 2, K.cell 3, h⟩
  have B8 : Below w2.heap.size w2 w2.drew := (Below.refl _ _).drew
  have B8' : Below w2.heap.size w2 (w2.alloc (.cells #[.int .i64 2, .int .i64 2, .int .i64 2, .int .i64 1] 23)).drew := ((Below.refl _ w2).alloc (Nat.le_refl _) _).drew
  have Z8 : Blk (w2.alloc (.cells #[.int .i64 2, .int .i64 2, .int .i64 2, .int .i64 1] 23)).drew w2.heap.size 23 (vls [⟨2, 2⟩, ⟨2, 1⟩]).toArray := (Blk.new' w2 _ _ rfl).drew1
  have HL : ∀ w, Calls Try.prog 13 #[.agg #[.int .i64 2, .int .i64 1], .agg #[.int .i64 2, .int .i64 2]] w fun e w' => e = .returned (.bool true) ∧ Below w.heap.size w w' := fun w => vless_any 2 1 2 2 w
  have HLL := Lib.hid HL
  have HQ := run_eql_vl
  have HO : Hid (∀ v ∈ ([⟨2, 2⟩, ⟨2, 1⟩] : List Vl), Ordy v) := fun v hv => by
    simp only [List.mem_cons, List.not_mem_nil, or_false] at hv
    rcases hv with rfl | rfl
    · exact ⟨by decide, by decide, by decide, by decide⟩
    · exact ⟨by decide, by decide, by decide, by decide⟩
  have HCB : Hid (∀ w9, Below w2.heap.size w2 w9 → Calls Try.prog 17 #[.int .i64 3, .slice (some ⟨va, 0, none⟩) 2 2] w9 fun e w' => e = .returned (.agg #[.int .i64 7, .int .i64 4]) ∧ Below w9.heap.size w9 w') := fun w9 h9 =>
    combine_any 3 (some ⟨va, 0, none⟩) 2 2 w9.heap.size [⟨2, 2⟩, ⟨2, 1⟩] w9 (Reads.of_blk (HKV.out.below h9 HKV.out.lt) (Nat.lt_of_lt_of_le HKV.out.lt h9.size) (by simp) rfl) (Nat.le_refl _) (by decide) HO.out (by decide)
  have HSV : Hid (∀ w9 g, Below w2.heap.size w2 w9 → Blk w9 g 23 (vls [⟨2, 2⟩, ⟨2, 1⟩]).toArray → Calls Try.prog 22 #[.slice (some ⟨va, 0, none⟩) 2 2, .slice (some ⟨g, 0, none⟩) 2 2] w9 fun e w' => e = .returned (.bool true) ∧ Below w9.heap.size w9 w') := fun w9 g h9 hz =>
    samev_any w9 (some ⟨va, 0, none⟩) (some ⟨g, 0, none⟩) 2 2 2 w9.heap.size w9.heap.size [⟨2, 2⟩, ⟨2, 1⟩] (Reads.of_blk (HKV.out.below h9 HKV.out.lt) (Nat.lt_of_lt_of_le HKV.out.lt h9.size) (by simp) rfl) (Reads.of_blk hz hz.lt (by simp) rfl) (by decide)
  have HSI : Hid (∀ w9 g, Below w2.heap.size w2 w9 → Blk w9 g 3 (ints [2, 3]).toArray → Calls Try.prog 23 #[.slice (some ⟨ea, 0, none⟩) 2 2, .slice (some ⟨g, 0, none⟩) 2 2] w9 fun e w' => e = .returned (.bool true) ∧ Below w9.heap.size w9 w') := fun w9 g h9 hz =>
    samei_any w9 (some ⟨ea, 0, none⟩) (some ⟨g, 0, none⟩) 2 2 2 w9.heap.size w9.heap.size [2, 3] (Reads.of_blk (HKE.out.below h9 HKE.out.lt) (Nat.lt_of_lt_of_le HKE.out.lt h9.size) (by simp) rfl) (Reads.of_blk hz hz.lt (by simp) rfl) (by decide)
  have hz8 := B8'.size
  clear HL
  go_region_held3 (fun w' => w'.cell? ⟨va, 0, none⟩ = some (.int .i64 2) ∧ w'.cell? ⟨va, 1, none⟩ = some (.int .i64 2) ∧ w'.cell? ⟨va, 2, none⟩ = some (.int .i64 2) ∧ w'.cell? ⟨va, 3, none⟩ = some (.int .i64 1) ∧ Below w2.heap.size w2 w')
    (first | exact H9.out _ B8 | exact H9.out _ B8' | exact H9.out _ X8 | exact H9.out _ X7 | exact H9.out _ X6 | exact H9.out _ Y5 | exact H9.out _ X5)
    (first
      | (go_at_call 22; (with_reducible refine (HSV.out _ _ B8' Z8).mono ?_); rintro e5 w5 ⟨rfl, hb5⟩; have X5 : Below w2.heap.size w2 w5 := B8'.trans (hb5.mono hz8); have hz5 := X5.size; have Y5 : Below w2.heap.size w2 (w5.alloc (.cells #[.int .i64 2, .int .i64 3] 3)) := X5.alloc hz5 _; have Z5 : Blk (w5.alloc (.cells #[.int .i64 2, .int .i64 3] 3)) w5.heap.size 3 (ints [2, 3]).toArray := Blk.new' w5 _ _ rfl; have hy5 := Y5.size)
      | (go_at_call 23; (with_reducible refine (HSI.out _ _ Y5 Z5).mono ?_); rintro e6 w6 ⟨rfl, hb6⟩; have X6 : Below w2.heap.size w2 w6 := Y5.trans (hb6.mono hy5); have hz6 := X6.size)
      | (go_at_call 13; (with_reducible refine (HLL.out _).mono ?_); rintro e7 w7 ⟨rfl, hb7⟩; have X7 : Below w2.heap.size w2 w7 := X6.trans (hb7.mono hz6); have hz7 := X7.size)
      | (go_at_call 17; (with_reducible refine (HCB.out _ X7).mono ?_); rintro e8 w8 ⟨rfl, hb8⟩; have X8 : Below w2.heap.size w2 w8 := X7.trans (hb8.mono hz7)))
  all_goals
    go_wp2_with fail
    go_ret
    exact ⟨rfl, HB2.out.trans (X8.mono HB2.out.size)⟩
end Go.Proofs.Ytkeiakmfnammbaa
