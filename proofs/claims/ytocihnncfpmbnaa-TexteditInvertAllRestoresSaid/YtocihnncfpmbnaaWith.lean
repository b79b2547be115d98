/- The hull after a further edit. -/
import Derived.Test.YtocihnncfpmbnaaHull
import Derived.Test.YtocihnncfpmbnaaInvert
namespace Go.Proofs.Ytocihnncfpmbnaa
open Go.RowKit

theorem results_hull {fn : Func} {p : Tmp} (h : fn.results = #[.cell p 45]) {tmps : Array Value} {b o : Nat} (hp : tmps.getD p undef = .pointer (some ⟨b, o, none⟩)) {w : World} {i j k : Int}
    (h0 : w.cell? ⟨b, o, none⟩ = some (.int .i64 i)) (h1 : w.cell? ⟨b, o + 1, none⟩ = some (.int .i64 j)) (h2 : w.cell? ⟨b, o + 2, none⟩ = some (.int .i64 k)) :
    (results fn tmps).run Try.prog w = .ok (.agg #[.int .i64 i, .int .i64 j, .int .i64 k]) w := by
  rw [results_cell h tmps _ hp]
  simp [go_sem, h0, h1, h2]

set_option maxHeartbeats 1000000 in
theorem with_any (f o n p d : Int) (t : ByteArray) (w : World) (hf : 0 ≤ f ∧ f ≤ 1000000000) (ho : 0 ≤ o ∧ o ≤ 1000000000) (hn : 0 ≤ n ∧ n ≤ 1000000000) (hp : 0 ≤ p ∧ p ≤ 1000000000) (hd : 0 ≤ d ∧ d ≤ 1000000000) (ht : t.size ≤ 1000000000) :
    Calls Try.prog 28 #[.agg #[.int .i64 f, .int .i64 o, .int .i64 n], .agg #[.int .i64 p, .int .i64 d, .string t]] w
      fun e w' => e = .returned (.agg #[.int .i64 (Hl.add ⟨f, o, n⟩ ⟨p, d, t⟩).f, .int .i64 (Hl.add ⟨f, o, n⟩ ⟨p, d, t⟩).o, .int .i64 (Hl.add ⟨f, o, n⟩ ⟨p, d, t⟩).n]) ∧ Below w.heap.size w w' := by
  unfold Hl.add
  obtain ⟨f0, f1⟩ := hf
  obtain ⟨o0, o1⟩ := ho
  obtain ⟨n0, n1⟩ := hn
  obtain ⟨p0, p1⟩ := hp
  obtain ⟨d0, d1⟩ := hd
  by_cases h1 : p < f
  all_goals
    by_cases h2 : 0 < p + d - n
    all_goals
      simp only [h1, h2, if_true, if_false]
      go_enter Try.func28, Try.ntmps28
      go_wp2_with fail
      refine bodyPost_ret (results_hull rfl rfl ((Blk.new' _ _ _ (by simp)).cell 0) ((Blk.new' _ _ _ (by simp)).cell 1) ((Blk.new' _ _ _ (by simp)).cell 2)) rfl ⟨rfl, ?_⟩
      exact (((Below.refl _ _).alloc (Nat.le_refl _) _).alloc (by simp) _).alloc (by simp; omega) _
end Go.Proofs.Ytocihnncfpmbnaa
