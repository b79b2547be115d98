/- New, Text, Version, Depth; push and pop on a stack in a history's field. -/
import Derived.Test.YtepohmklbfkdfaaUHeap
import Derived.Deep.RegionLaw
namespace Go.Proofs.Ytepohmklbfkdfaa
open Go.RowKit

theorem new_any (s : ByteArray) (w : World) : Calls Try.prog 11 #[.string s] w
    fun e w' => e = .returned (.pointer (some ⟨w.heap.size, 0, none⟩)) ∧ w' = w.alloc (.cells #[.string s, .int .i64 0, .slice none 0 0, .slice none 0 0] 54) := by
  go_enter Try.func11, Try.ntmps11
  go_wp2_with fail
  go_ret
  exact ⟨rfl, rfl⟩
theorem new_hist (s : ByteArray) (w : World) (F : Nat → Prop) (hF : F w.heap.size) :
    Hist (w.alloc (.cells #[.string s, .int .i64 0, .slice none 0 0, .slice none 0 0] 54)) F w.heap.size (CH.new s).hs :=
  ⟨.slice none 0 0, .slice none 0 0, Blk.new' _ _ _ rfl, World.ownsRow_nil _ _ _ _, World.ownsRow_nil _ _ _ _, hF, by simp [Value.ownBlock], by simp [Value.ownBlock], by simp [Value.ownBlock]⟩
theorem text_any (g : Nat) (s : ByteArray) (w : World) (h : w.cell? ⟨g, 0, none⟩ = some (.string s)) : Calls Try.prog 15 #[.pointer (some ⟨g, 0, none⟩)] w
    fun e w' => e = .returned (.string s) ∧ w = w' := by
  go_enter Try.func15, Try.ntmps15
  go_wp2_with fail
  go_ret
  exact ⟨rfl, rfl⟩
theorem version_any (g v : Nat) (w : World) (h : w.cell? ⟨g, 1, none⟩ = some (.int .i64 v)) : Calls Try.prog 17 #[.pointer (some ⟨g, 0, none⟩)] w
    fun e w' => e = .returned (.int .i64 v) ∧ w = w' := by
  go_enter Try.func17, Try.ntmps17
  go_wp2_with fail
  go_ret
  exact ⟨rfl, rfl⟩
theorem depth_any (g : Nat) (F : Nat → Prop) (h : HS) (w : World) (hh : Hist w F g h) : Calls Try.prog 14 #[.pointer (some ⟨g, 0, none⟩)] w
    fun e w' => e = .returned (.tuple #[.int .i64 h.U.length, .int .i64 h.R.length]) ∧ ∃ k, w' = w.drewN k := by
  obtain ⟨vu, vr, K, hu, hr, _⟩ := hh
  obtain ⟨A, c, rfl, _⟩ := own_form hu
  obtain ⟨A2, c2, rfl, _⟩ := own_form hr
  have k2 := K.cell 2
  have k3 := K.cell 3
  simp at k2 k3
  go_enter Try.func14, Try.ntmps14
  go_wp2_with fail
  go_quiet (fail)
  go_wp2_with fail
  go_ret2
  exact ⟨rfl, drew1 _ _⟩

theorem infoEd : (Try.prog.info? 31).map (fun i => (i.zero, i.size, i.bytes)) = some (some (.agg #[.int .i64 0, .int .i64 0, .string ⟨#[]⟩]), 3, 32) := by kernel_rfl
/-- push: what the field holds behind it. -/
def Pushed (w : World) (g j : Nat) (cs : Array Value) (vu : Value) (U : List Ed) (w' : World) : Prop :=
  ∃ gg cap, w'.ownsRow 0 31 3 (.slice (some ⟨gg, 0, none⟩) (U.length) cap) U.length (eds U) ∧ Blk w' g 54 (cs.setIfInBounds j (.slice (some ⟨gg, 0, none⟩) (U.length) cap)) ∧
    (vu.ownBlock = some gg ∨ w.heap.size ≤ gg) ∧ Touch (fun k => k = g ∨ vu.ownBlock = some k) w w'

theorem keep_push {w w1 : World} {g j : Nat} {v u : Value} {o o2 : Obj} (hg : ((w.alloc o).alloc o2).drew.grownBy w1 v.ownBlock) (c1 : (w.alloc o).cell? ⟨g, j, none⟩ = some u) (h1 : v.ownBlock ≠ some g) (hlt : g < w.heap.size) : w1.cell? ⟨g, j, none⟩ = some u := by
  have := hg.block g (by show g < ((w.alloc o).alloc o2).heap.size; simp; omega) (Ne.symm h1)
  exact (World.cell?_of_block (a := ⟨g, j, none⟩) this).trans (cell_alloc c1 o2)
theorem far_push {w w1 : World} {g j : Nat} {v : Value} {o o2 : Obj} (hg : ((w.alloc o).alloc o2).drew.grownBy w1 v.ownBlock) (f1 : (w.alloc o).frozen? ⟨g, j, none⟩ = false) (h1 : v.ownBlock ≠ some g) (hlt : g < w.heap.size) : w1.frozen? ⟨g, j, none⟩ = false := by
  have := hg.block g (by show g < ((w.alloc o).alloc o2).heap.size; simp; omega) (Ne.symm h1)
  refine (World.frozen?_of_block (a := ⟨g, j, none⟩) this).trans ?_
  show ((w.alloc o).alloc o2).frozen? ⟨g, j, none⟩ = false
  rw [World.frozen?_of_block (a := ⟨g, j, none⟩) (Below.heap_alloc (w.alloc o) o2 g (by simp; omega))]
  exact f1
theorem push_end {w w1 : World} {g j n gg cap c : Nat} {o o2 : Obj} {cs : Array Value} {A : Option Addr} {U : List Ed} {e : Ed} (hN : U.length = n) (K : Blk w g 54 cs) (hne : (Value.slice A n c).ownBlock ≠ some g)
    (hown1 : w1.ownsRow 0 31 3 (.slice (some ⟨gg, 0, none⟩) (n + 1) cap) (n + 1) (eds U ++ e.cells)) (hgrow : ((w.alloc o).alloc o2).drew.grownBy w1 (Value.slice A n c).ownBlock) (hat : (Value.slice A n c).ownBlock = some gg ∨ gg = w.heap.size + 1 + 1) :
    Pushed w g j cs (.slice A n c) (U ++ [e]) (w1.setCell ⟨g, j, none⟩ (.slice (some ⟨gg, 0, none⟩) (n + 1) cap)) := by
  have hT : Touch (fun k => k = g ∨ (Value.slice A n c).ownBlock = some k) w w1 := ((((Touch.refl _ _).alloc o).alloc o2).drewN 1).grown hgrow (fun k hk => .inl (.inr hk))
  have K1 : Blk w1 g 54 cs := (((K.alloc o).alloc o2).drewN 1).grown hgrow (Ne.symm hne)
  have hlen : (U ++ [e]).length = n + 1 := by rw [List.length_append, hN]; rfl
  have hg := K.lt
  have hgg : gg ≠ g := by
    rcases hat with h | h
    · intro e; subst e; exact hne h
    · omega
  refine ⟨gg, cap, ?_, ?_, ?_, ?_⟩
  · rw [hlen, eds_append]
    have e1 : eds [e] = e.cells := by simp [eds]
    rw [e1]
    exact own_touch (F := fun k => k = g) hown1 ((Touch.refl (fun k => k = g) w1).setCell (p := ⟨g, j, none⟩) (.inl rfl) _) (fun k hk e => hgg (by
      have : gg = k := by simpa [Value.ownBlock] using hk
      omega))
  · rw [hlen]
    exact K1.set_ j _
  · rcases hat with h | h
    · exact .inl h
    · right; omega
  · exact hT.setCell (.inl (.inl rfl)) _
set_option maxRecDepth 100000 in
set_option maxHeartbeats 2000000 in
theorem push_any (g j : Nat) (cs : Array Value) (vu : Value) (U : List Ed) (a b : Int) (t : ByteArray) (w : World) (K : Blk w g 54 cs) (hj : cs[j]? = some vu) (hown : w.ownsRow 0 31 3 vu U.length (eds U)) (hn : U.length ≤ 1000) :
    Calls Try.prog 28 #[.pointer (some ⟨g, j, none⟩), .agg #[.int .i64 a, .int .i64 b, .string t]] w
      fun e w' => e = .returned (.tuple #[]) ∧ Pushed w g j cs vu (U ++ [⟨a, b, t⟩]) w' := by
  obtain ⟨i0, hi0, hz0, hz1, hz2⟩ := info_parts infoEd
  have hne := own_blk_ne hown K (by decide)
  have hnB : vu.ownBlock ≠ some w.heap.size := fun e => by have := own_lt hown e; omega
  have hlt : ∀ k, vu.ownBlock = some k → k < w.heap.size := fun k e => own_lt hown e
  obtain ⟨n, hN⟩ : ∃ n, U.length = n := ⟨_, rfl⟩
  rw [hN] at hown hn
  obtain ⟨A, c, rfl, hnc, hcm⟩ := own_form hown
  have hg := K.lt
  have c0 := K.cell j
  rw [hj] at c0
  have HO := Lib.hid hown
  have B1 := Blk.new' w 31 #[.int .i64 a, .int .i64 b, .string t] rfl
  have c1 := cell_alloc c0 (.cells #[.int .i64 a, .int .i64 b, .string t] 31)
  have f1 : (w.alloc (.cells #[.int .i64 a, .int .i64 b, .string t] 31)).frozen? ⟨g, j, none⟩ = false := (K.alloc _).frozen j
  have HN := Lib.hid hN
  have HK := Lib.hid K
  have NEWS := Lib.hid (show ∀ j u, (Ed.cells ⟨a, b, t⟩)[j]? = some u → (((w.alloc (.cells #[.int .i64 a, .int .i64 b, .string t] 31)).alloc (.cells #[.int .i64 a, .int .i64 b, .string t] 31)).drew).cell? ((⟨w.heap.size + 1, 0, none⟩ : Addr).add j) = some u from
    fun j u hu => by
      rw [Addr.add_lit, Nat.zero_add]
      have h := (Blk.new' (w.alloc (.cells #[.int .i64 a, .int .i64 b, .string t] 31)) 31 #[.int .i64 a, .int .i64 b, .string t] rfl).cell j
      rw [World.size_alloc] at h
      refine Eq.trans h ?_
      rw [← Array.getElem?_toList]
      exact hu)
  have NE := Lib.hid hne
  have NB := Lib.hid hnB
  have LT := Lib.hid hlt
  clear hN hown c0 B1 hne hnB hlt K hj
  go_enter Try.func28, Try.ntmps28
  go_wp2_with fail
  go_region_law (first | (refine step_append_lies _ (by rfl) _ _ _ (by rfl) 0 31 i0 _ 3 32 Try.underlying52 hi0 hz0 hz1 hz2 rfl (by omega) _ n (eds U) (by rfl) (((HO.out.alloc _).alloc _).drew) ⟨w.heap.size + 1, 0, none⟩ 1 1 (Ed.cells ⟨a, b, t⟩) (by rfl) (by rfl) NEWS.out (by simp [Ed.cells, Value.oneCell']) (by omega) (by unfold maxLen; omega) (by omega) (Nat.zero_le _) (w.heap.size + 1 + 1) (by simp) ?_; intro gg cap w1 hown1 hgrow hat hlt; have KEEP := keep_push (v := .slice A n c) hgrow c1 NE.out hg; have fz := far_push (v := .slice A n c) hgrow f1 NE.out hg))
  all_goals (go_end0; exact ⟨rfl, push_end HN.out HK.out NE.out hown1 hgrow hat⟩)
end Go.Proofs.Ytepohmklbfkdfaa
