/- pop on a stack in a history's field. -/
import Derived.Test.YtepohmklbfkdfaaUOps
namespace Go.Proofs.Ytepohmklbfkdfaa
open Go.RowKit

theorem results_edit_bool {fn : Func} {p q : Tmp} (h : fn.results = #[.cell p 31, .tmp q]) {tmps : Array Value} {b o : Nat} (hp : tmps.getD p undef = .pointer (some ⟨b, o, none⟩)) {w : World} {i j : Int} {t : ByteArray} {v : Value}
    (h0 : w.cell? ⟨b, o, none⟩ = some (.int .i64 i)) (h1 : w.cell? ⟨b, o + 1, none⟩ = some (.int .i64 j)) (h2 : w.cell? ⟨b, o + 2, none⟩ = some (.string t)) (hv : tmps.getD q undef = v) :
    (results fn tmps).run Try.prog w = .ok (.tuple #[.agg #[.int .i64 i, .int .i64 j, .string t], v]) w := results_edit_int h hp h0 h1 h2 hv

set_option maxHeartbeats 1000000 in
theorem pop_none (g j : Nat) (cs : Array Value) (A : Option Addr) (c : Nat) (w : World) (K : Blk w g 54 cs) (hj : cs[j]? = some (.slice A 0 c)) :
    Calls Try.prog 34 #[.pointer (some ⟨g, j, none⟩)] w
      fun e w' => e = .returned (.tuple #[.agg #[.int .i64 0, .int .i64 0, .string ⟨#[]⟩], .bool false]) ∧ Below w.heap.size w w' := by
  have c0 := K.cell j
  rw [hj] at c0
  have c1 := cell_alloc c0 (.cells #[.int .i64 0, .int .i64 0, .string ⟨#[]⟩] 31)
  have N1 := Blk.new' w 31 #[.int .i64 0, .int .i64 0, .string ⟨#[]⟩] rfl
  clear hj c0 K
  go_enter Try.func34, Try.ntmps34
  go_wp2_with fail
  refine bodyPost_ret (results_edit_bool rfl rfl (N1.cell 0) (N1.cell 1) (N1.cell 2) rfl) rfl ⟨rfl, ?_⟩
  exact (Below.refl _ _).alloc (Nat.le_refl _) _

/-- pop: what the field holds behind it. -/
def Popped (w : World) (g j : Nat) (cs : Array Value) (vu : Value) (U : List Ed) (w' : World) : Prop :=
  ∃ vu', w'.ownsRow 0 31 3 vu' U.length (eds U) ∧ Blk w' g 54 (cs.setIfInBounds j vu') ∧ vu'.ownBlock = vu.ownBlock ∧ Touch (fun k => k = g) w w'
theorem own_pop {w : World} {base : Nat} {e : TypeId} {gg cap n : Nat} {U : List Ed} {x : Ed} (hn : U.length = n) (h : w.ownsRow base e 3 (.slice (some ⟨gg, 0, none⟩) (n + 1) cap) (n + 1) (eds (U ++ [x]))) :
    w.ownsRow base e 3 (.slice (some ⟨gg, 0, none⟩) n cap) n (eds U) := by
  obtain ⟨h1, h2⟩ := h
  rcases h2 with ⟨h0, _⟩ | ⟨g', cap', cur, hv, hg, hh, hn', hcap, hsz, htake⟩
  · cases h0
  · cases hv
    refine ⟨by rw [eds_length, hn], .inr ⟨gg, cap, cur, rfl, hg, hh, by omega, hcap, hsz, ?_⟩⟩
    have h3 : (cur.toList.take ((n + 1) * 3)).take (n * 3) = (eds (U ++ [x])).take (n * 3) := by rw [htake]
    rw [List.take_take, Nat.min_eq_left (by omega)] at h3
    rw [h3, eds_append, List.take_append_of_le_length (by rw [eds_length]; omega), List.take_of_length_le (by rw [eds_length]; omega)]
theorem pop_end {w w1 : World} {g j n gg cap : Nat} {cs : Array Value} {U : List Ed} {e : Ed} (hN : U.length = n) (K : Blk w1 g 54 cs) (hne : gg ≠ g) (hg : g < w.heap.size)
    (hown1 : w1.ownsRow 0 31 3 (.slice (some ⟨gg, 0, none⟩) (n + 1) cap) (n + 1) (eds (U ++ [e]))) (hb : Below w.heap.size w w1) {w2 : World} (h2 : Touch (fun k => k = w.heap.size) (w1.setCell ⟨g, j, none⟩ (.slice (some ⟨gg, 0, none⟩) n cap)) w2) (hgl : gg < w.heap.size) :
    Popped w g j cs (.slice (some ⟨gg, 0, none⟩) (n + 1) cap) U w2 := by
  have T0 : Touch (fun k => k = g) w w1 := Touch.of_below hb
  have T1 : Touch (fun k => k = g) w (w1.setCell ⟨g, j, none⟩ (.slice (some ⟨gg, 0, none⟩) n cap)) := T0.setCell (.inl rfl) _
  have T2 : Touch (fun k => k = g) w w2 := T1.trans h2 (fun k hk => by right; omega)
  refine ⟨.slice (some ⟨gg, 0, none⟩) n cap, ?_, ?_, rfl, T2⟩
  · rw [hN]
    refine own_touch (own_touch (own_pop hN hown1) ((Touch.refl (fun k => k = g) w1).setCell (p := ⟨g, j, none⟩) (.inl rfl) _) ?_) h2 ?_
    · intro k hk
      have : gg = k := by simpa [Value.ownBlock] using hk
      omega
    · intro k hk
      have : gg = k := by simpa [Value.ownBlock] using hk
      omega
  · exact (K.set_ j _).touch h2 (by omega)

set_option maxRecDepth 100000 in
set_option maxHeartbeats 4000000 in
theorem pop_some (g j : Nat) (cs : Array Value) (vu : Value) (U : List Ed) (a b : Int) (t : ByteArray) (w : World) (K : Blk w g 54 cs) (hj : cs[j]? = some vu) (hown : w.ownsRow 0 31 3 vu (U.length + 1) (eds (U ++ [⟨a, b, t⟩]))) (hn : U.length ≤ 1000) :
    Calls Try.prog 34 #[.pointer (some ⟨g, j, none⟩)] w
      fun e w' => e = .returned (.tuple #[.agg #[.int .i64 a, .int .i64 b, .string t], .bool true]) ∧ Popped w g j cs vu U w' := by
  obtain ⟨n, hN⟩ : ∃ n, U.length = n := ⟨_, rfl⟩
  rw [hN] at hown hn
  obtain ⟨gg, c, rfl, hgb⟩ : ∃ gg c, vu = .slice (some ⟨gg, 0, none⟩) (n + 1) c ∧ gg < w.heap.size := by
    rcases hown.2 with ⟨_, h⟩ | ⟨gg, cap, cur, h, _, hh, _⟩
    · omega
    · exact ⟨gg, cap, h, (Array.getElem?_eq_some_iff.1 hh).1⟩
  obtain ⟨A', c', e1, hnc, hcm⟩ := own_form hown
  injection e1 with e1 e2 e3
  subst e3
  unfold maxLen at hcm
  clear e1 e2
  have hne : gg ≠ g := by
    have h := own_blk_ne hown K (by decide)
    simpa [Value.ownBlock] using h
  have hg := K.lt
  have hR := Reads.of_own hown
  have hat : (U ++ [(⟨a, b, t⟩ : Ed)])[n]? = some ⟨a, b, t⟩ := by rw [List.getElem?_append_right (by omega), hN]; simp
  obtain ⟨b', off, t', e1, _, ht, h0, h1, h2⟩ := hR.ed_at (k := n) (by omega)
  have e4 := hat.symm.trans ht
  injection e1 with e1
  injection e1 with e1 e2
  injection e4 with e4
  subst e1; subst e2; subst e4
  simp only [Nat.zero_add] at h0 h1 h2
  have N1 := Blk.new' w 31 #[.int .i64 0, .int .i64 0, .string ⟨#[]⟩] rfl
  have h0 := cell_alloc h0 (.cells #[.int .i64 0, .int .i64 0, .string ⟨#[]⟩] 31)
  have h1 := cell_alloc h1 (.cells #[.int .i64 0, .int .i64 0, .string ⟨#[]⟩] 31)
  have h2 := cell_alloc h2 (.cells #[.int .i64 0, .int .i64 0, .string ⟨#[]⟩] 31)
  have c0 := K.cell j
  rw [hj] at c0
  have c1 := cell_alloc c0 (.cells #[.int .i64 0, .int .i64 0, .string ⟨#[]⟩] 31)
  have f1 : (w.alloc (.cells #[.int .i64 0, .int .i64 0, .string ⟨#[]⟩] 31)).frozen? ⟨g, j, none⟩ = false := (K.alloc _).frozen j
  have HO := Lib.hid hown
  have HN := Lib.hid hN
  have HK := Lib.hid K
  have v1 : IntKind.i64.wrap ((n : Int) + 1 - 1) = (n : Int) := by rw [IntWalk.i64_in _ (by omega)]; omega
  have v2 : ((n : Int) + 1 == 0) = false := by rw [beq_eq_false_iff_ne]; omega
  have v3 : (0 : Int) ≤ n := by omega
  have v4 : (n : Int) < (n : Int) + 1 := by omega
  clear hN hown K hj hR hat ht c0
  go_enter Try.func34, Try.ntmps34
  go_wp2_with fail
  go_region
  go_wp2_with fail
  go_region
  go_wp2_with fail
  have N2 := ((Blk.new' (g := w.heap.size) (w.setCell ⟨g, j, none⟩ (.slice (some ⟨gg, 0, none⟩) n c)) 31 #[.int .i64 a, .int .i64 b, .string t] (by simp [World.setCell])).alloc (.cells #[.int .i64 a, .int .i64 b, .string t] 31)).drewN 2
  refine bodyPost_ret (results_edit_bool rfl rfl (N2.cell 0) (N2.cell 1) (N2.cell 2) rfl) rfl ⟨rfl, ?_⟩
  exact pop_end HN.out HK.out hne hg HO.out (Below.refl _ _) ((((Touch.refl _ _).alloc _).alloc _).drewN 2) hgb
end Go.Proofs.Ytepohmklbfkdfaa
