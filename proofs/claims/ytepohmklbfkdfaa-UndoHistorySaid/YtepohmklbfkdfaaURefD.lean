/- The reference's Do. -/
import Derived.Test.YtepohmklbfkdfaaURefU
import Derived.Test.YtepohmklbfkdfaaAppAny
import Derived.Deep.RegionLaw
import Derived.Deep.DeepCutAuto
namespace Go.Proofs.Ytepohmklbfkdfaa
open Go.RowKit

theorem results_st_int {fn : Func} {p r : Tmp} (h : fn.results = #[.cell p 29, .tmp r]) {tmps : Array Value} {b : Nat} (hp : tmps.getD p undef = .pointer (some ⟨b, 0, none⟩)) {w : World}
    {S : ByteArray} {sl : Value} {d v : Int} {x : Value}
    (h0 : w.cell? ⟨b, 0, none⟩ = some (.string S)) (h1 : w.cell? ⟨b, 1, none⟩ = some sl) (h2 : w.cell? ⟨b, 2, none⟩ = some (.int .i64 d)) (h3 : w.cell? ⟨b, 3, none⟩ = some (.int .i64 v)) (hs : ∃ A n c, sl = .slice A n c) (hv : tmps.getD r undef = x) :
    (results fn tmps).run Try.prog w = .ok (.tuple #[.agg #[.string S, sl, .int .i64 d, .int .i64 v], x]) w := by
  obtain ⟨A, n, c, rfl⟩ := hs
  have hp' : tmps[p]?.getD undef = .pointer (some ⟨b, 0, none⟩) := by rw [← hp]; simp
  have hv' : tmps[r]?.getD undef = x := by rw [← hv]; simp
  simp only [results, h]
  simp [go_sem, asAddr, hp', hv', h0, h1, h2, h3]
theorem keep4e {w w' : World} {M N N2 : Nat} {x0 x1 x2 x3 p q r : Value} (h0 : w.cell? ⟨N, 0, none⟩ = some x0) (h1 : w.cell? ⟨N, 1, none⟩ = some x1) (h2 : w.cell? ⟨N, 2, none⟩ = some x2) (h3 : w.cell? ⟨N, 3, none⟩ = some x3)
    (g0 : w.cell? ⟨N2, 0, none⟩ = some p) (g1 : w.cell? ⟨N2, 1, none⟩ = some q) (g2 : w.cell? ⟨N2, 2, none⟩ = some r) (hN : N < M) (hb : N2 < M) (hB : Below M w w') :
    w'.cell? ⟨N, 0, none⟩ = some x0 ∧ w'.cell? ⟨N, 1, none⟩ = some x1 ∧ w'.cell? ⟨N, 2, none⟩ = some x2 ∧ w'.cell? ⟨N, 3, none⟩ = some x3 ∧ w'.cell? ⟨N2, 0, none⟩ = some p ∧ w'.cell? ⟨N2, 1, none⟩ = some q ∧ w'.cell? ⟨N2, 2, none⟩ = some r ∧ Below M w w' :=
  ⟨(hB.cell (p := ⟨N, 0, none⟩) hN).trans h0, (hB.cell (p := ⟨N, 1, none⟩) hN).trans h1, (hB.cell (p := ⟨N, 2, none⟩) hN).trans h2, (hB.cell (p := ⟨N, 3, none⟩) hN).trans h3,
   (hB.cell (p := ⟨N2, 0, none⟩) hb).trans g0, (hB.cell (p := ⟨N2, 1, none⟩) hb).trans g1, (hB.cell (p := ⟨N2, 2, none⟩) hb).trans g2, hB⟩

/-- What the new list of edits leaves. -/
def DoCut (w : World) (S : ByteArray) (d v : Nat) (L : List Ed) (wx : World) : Prop :=
  ∃ gg cap, w.heap.size ≤ gg ∧ wx.ownsRow 0 31 3 (.slice (some ⟨gg, 0, none⟩) (d + 1) cap) (d + 1) (eds L) ∧ Blk wx w.heap.size 29 #[.string S, .slice (some ⟨gg, 0, none⟩) (d + 1) cap, .int .i64 d, .int .i64 v] ∧
    Blk wx (w.heap.size + 1 + 1) 29 #[.string ⟨#[]⟩, .slice none 0 0, .int .i64 0, .int .i64 0] ∧ Below w.heap.size w wx
theorem do_cut {w w5 : World} {S : ByteArray} {d v gg cap n c : Nat} {A : Option Addr} {E : List Ed} {e : Ed} (h : w5.ownsRow 0 31 3 (.slice (some ⟨gg, 0, none⟩) (d + 1) cap) (d + 1) (eds E ++ e.cells))
    (K : Blk w5 w.heap.size 29 #[.string S, .slice A n c, .int .i64 d, .int .i64 v]) (R : Blk w5 (w.heap.size + 1 + 1) 29 #[.string ⟨#[]⟩, .slice none 0 0, .int .i64 0, .int .i64 0]) (hb : Below w.heap.size w w5) (hge : w.heap.size ≤ gg) :
    DoCut w S d v (E ++ [e]) (w5.setCell ⟨w.heap.size, 1, none⟩ (.slice (some ⟨gg, 0, none⟩) (d + 1) cap)) := by
  have hne := own_blk_ne h K (by decide)
  refine ⟨gg, cap, hge, ?_, ?_, R.far (p := ⟨w.heap.size, 1, none⟩) (by show w.heap.size + 1 + 1 ≠ w.heap.size; omega) _, hb.setCell (Nat.le_refl _) _⟩
  · have e1 : eds (E ++ [e]) = eds E ++ e.cells := by rw [eds_append]; simp [eds]
    rw [e1]
    exact own_touch h ((Touch.refl (fun k => k = w.heap.size) w5).setCell (p := ⟨w.heap.size, 1, none⟩) (.inl rfl) _) (fun k hk e => hne (by rw [e] at hk; exact hk))
  · have := K.set_ 1 (.slice (some ⟨gg, 0, none⟩) (d + 1) cap)
    simpa using this
theorem own_fix {w : World} {e : TypeId} {v : Value} {d : Nat} {xs : List Value} (h : w.ownsRow 0 e 3 v (0 + d) ([] ++ xs)) : w.ownsRow 0 e 3 v d xs := by simpa using h
theorem own_empty (w : World) (x : Nat) (hx : w.heap.size = x) : (w.alloc (.cells #[] 31)).ownsRow 0 31 3 (.slice (some ⟨x, 0, none⟩) 0 0) 0 [] := by
  subst hx
  exact ⟨rfl, .inr ⟨_, 0, #[], rfl, Nat.zero_le _, heap_alloc_new w _, Nat.le_refl _, by unfold maxLen; omega, rfl, rfl⟩⟩
theorem gg_ge {v1 : Value} {gg H N : Nat} (hat : v1.ownBlock = some gg ∨ gg = H) (h1 : ∀ k, v1.ownBlock = some k → N ≤ k) (h2 : N ≤ H) : N ≤ gg := by
  rcases hat with h | h
  · exact h1 _ h
  · omega
theorem ne_own {g x : Nat} (h : g ≠ x) : some g ≠ (Value.slice (some ⟨x, 0, none⟩) 0 0).ownBlock := fun e => by simp [Value.ownBlock] at e; omega
theorem own_ge {g x : Nat} (h : g ≤ x) : ∀ k, (Value.slice (some ⟨x, 0, none⟩) 0 0).ownBlock = some k → g ≤ k := fun k e => by simp [Value.ownBlock] at e; omega
theorem ne_hat {v1 : Value} {z0 s H : Nat} (hat : v1.ownBlock = (Value.slice (some ⟨z0, 0, none⟩) 0 0).ownBlock ∨ v1.ownBlock = some s) (h0 : H ≤ z0) (h1 : H ≤ s) : (∀ g, g < H → some g ≠ v1.ownBlock) ∧ (∀ k, v1.ownBlock = some k → H ≤ k) := by
  refine ⟨fun g hg e => ?_, fun k hk => ?_⟩
  · rcases hat with h | h <;> rw [h] at e <;> simp [Value.ownBlock] at e <;> omega
  · rcases hat with h | h <;> rw [h] at hk <;> simp [Value.ownBlock] at hk <;> omega
theorem oneCell_eds (l : List Ed) : ∀ u ∈ eds l, u.oneCell' = true := by
  intro u hu
  simp only [eds, List.mem_flatMap] at hu
  obtain ⟨x, _, hu⟩ := hu
  simp only [Ed.cells, List.mem_cons, List.not_mem_nil, or_false] at hu
  rcases hu with rfl | rfl | rfl <;> rfl
theorem reads_take {w : World} {B n d : Nat} {A : Option Addr} {E : List Ed} (h : Reads w B 3 A n (eds E)) (hd : d ≤ n) : Reads w B 3 A d (eds (E.take d)) := by
  have hl := h.len_eds
  have h1 : eds E = eds (E.take d) ++ eds (E.drop d) := by rw [← eds_append, List.take_append_drop]
  have he : eds (E.take d) = (eds E).take (d * 3) := by rw [h1, List.take_left' (by rw [eds_length, List.length_take]; omega)]
  refine ⟨by rw [eds_length, List.length_take]; omega, fun hn => ?_⟩
  obtain ⟨b, off, e, hb, hc⟩ := h.2 (by omega)
  refine ⟨b, off, e, hb, fun j u hu => hc j u ?_⟩
  rw [he] at hu
  rw [List.getElem?_take] at hu
  split at hu
  · exact hu
  · cases hu
theorem news_blk {w : World} {g : Nat} {a b : Int} {t : ByteArray} (K : Blk w g 31 #[.int .i64 a, .int .i64 b, .string t]) : ∀ j u, (Ed.cells ⟨a, b, t⟩)[j]? = some u → w.cell? ((⟨g, 0, none⟩ : Addr).add j) = some u := by
  intro j u hu
  rw [Addr.add_lit, Nat.zero_add, K.cell, ← Array.getElem?_toList]
  exact hu
theorem news_new (w : World) {a b : Int} {t : ByteArray} (_x : Unit) : ∀ j u, (Ed.cells ⟨a, b, t⟩)[j]? = some u → (w.alloc (.cells #[.int .i64 a, .int .i64 b, .string t] 31)).cell? ((⟨w.heap.size, 0, none⟩ : Addr).add j) = some u := news_blk (Blk.new' w 31 #[.int .i64 a, .int .i64 b, .string t] rfl)

set_option maxRecDepth 100000 in
set_option maxHeartbeats 4000000 in
theorem refDo2_any (S : ByteArray) (A : Option Addr) (n c B d v : Nat) (E : List Ed) (a b : Int) (t : ByteArray) (w : World) (hl : Reads w B 3 A n (eds E)) (hB : B ≤ w.heap.size) (hd : d ≤ n) (hn : n ≤ 1000) (hf : Fine S E) (ht : t.size ≤ 1048576) (_hv : v ≤ 1000000) (hok : Ed.ok (tx S (E.take d)).size ⟨a, b, t⟩ = false) :
    Calls Try.prog 25 #[.agg #[.string S, .slice A n c, .int .i64 d, .int .i64 v], .agg #[.int .i64 a, .int .i64 b, .string t]] w
      fun e w' => e = .returned (.tuple #[.agg #[.string S, .slice A n c, .int .i64 d, .int .i64 v], .int .i64 2]) ∧ Below w.heap.size w w' := by
  have hsl : ∃ A' n' c', Value.slice A n c = .slice A' n' c' := ⟨_, _, _, rfl⟩
  obtain ⟨T, hT⟩ : ∃ T, tx S (E.take d) = T := ⟨_, rfl⟩
  have hTz := hf.T d
  rw [hT] at hTz hok
  have HTX := Lib.hid hT
  have HF := Lib.hid hf
  have HS1 := Lib.hid (show T.size + t.size ≤ 9223372036854775807 by omega)
  have b0 : Below w.heap.size w (((w.alloc (.cells #[.string S, .slice A n c, .int .i64 d, .int .i64 v] 29)).alloc (.cells #[.int .i64 a, .int .i64 b, .string t] 31)).alloc (.cells #[.string ⟨#[]⟩, .slice none 0 0, .int .i64 0, .int .i64 0] 29)) := (((Below.refl _ _).alloc (Nat.le_refl _) _).alloc (by simp) _).alloc (by simp; omega) _
  have K1 := ((Blk.new' w 29 #[.string S, .slice A n c, .int .i64 d, .int .i64 v] rfl).alloc (.cells #[.int .i64 a, .int .i64 b, .string t] 31)).alloc (.cells #[.string ⟨#[]⟩, .slice none 0 0, .int .i64 0, .int .i64 0] 29)
  have B1 := (Blk.new' (g := w.heap.size + 1) (w.alloc (.cells #[.string S, .slice A n c, .int .i64 d, .int .i64 v] 29)) 31 #[.int .i64 a, .int .i64 b, .string t] (by simp)).alloc (.cells #[.string ⟨#[]⟩, .slice none 0 0, .int .i64 0, .int .i64 0] 29)
  have R1 := Blk.new' (g := w.heap.size + 1 + 1) ((w.alloc (.cells #[.string S, .slice A n c, .int .i64 d, .int .i64 v] 29)).alloc (.cells #[.int .i64 a, .int .i64 b, .string t] 31)) 29 #[.string ⟨#[]⟩, .slice none 0 0, .int .i64 0, .int .i64 0] (by simp)
  have hl1 := hl.below (b0.mono hB)
  obtain ⟨W1, hW1⟩ : ∃ W1, W1 = ((w.alloc (.cells #[.string S, .slice A n c, .int .i64 d, .int .i64 v] 29)).alloc (.cells #[.int .i64 a, .int .i64 b, .string t] 31)).alloc (.cells #[.string ⟨#[]⟩, .slice none 0 0, .int .i64 0, .int .i64 0] 29) := ⟨_, rfl⟩
  have hM : W1.heap.size = w.heap.size + 1 + 1 + 1 := by rw [hW1]; simp
  rw [← hW1] at b0 K1 B1 R1 hl1
  have WAIT := Lib.hid hW1
  obtain ⟨M, hMM⟩ : ∃ M, w.heap.size + 1 + 1 + 1 = M := ⟨_, rfl⟩
  rw [hMM] at hM
  have hz1 : M ≤ W1.heap.size := by omega
  have hza : M ≤ W1.drew.heap.size := hz1
  have hBM : B ≤ M := by omega
  have HL := Lib.hid hl1
  have HLa := Lib.hid (reads_drew hl1)
  have hBa : B ≤ W1.drew.heap.size := by show B ≤ W1.heap.size; omega
  have HNM := Lib.hid (show w.heap.size < M by omega)
  have HBM := Lib.hid (show w.heap.size + 1 < M by omega)
  obtain ⟨x0, x1, x2, x3, _, _, _, _⟩ := blk4 K1
  obtain ⟨y0, y1, y2, _, _, _⟩ := blk3 B1
  have HMM := Lib.hid hMM
  have HA := Lib.hid (show apT T ⟨a, b, t⟩ = ⟨#[]⟩ ∧ apF T ⟨a, b, t⟩ = 2 by simp [apT, apF, hok])
  clear hl hl1 hf hT hW1 hM hMM hok
  go_enter Try.func25, Try.ntmps25
  go_wp2_with fail
  rw [← WAIT.out]
  go_region_held3 (fun w' => w'.cell? ⟨w.heap.size, 0, none⟩ = some (.string S) ∧ w'.cell? ⟨w.heap.size, 1, none⟩ = some (.slice A n c) ∧ w'.cell? ⟨w.heap.size, 2, none⟩ = some (.int .i64 d) ∧ w'.cell? ⟨w.heap.size, 3, none⟩ = some (.int .i64 v) ∧ w'.cell? ⟨w.heap.size + 1, 0, none⟩ = some (.int .i64 a) ∧ w'.cell? ⟨w.heap.size + 1, 1, none⟩ = some (.int .i64 b) ∧ w'.cell? ⟨w.heap.size + 1, 2, none⟩ = some (.string t) ∧ Below M W1 w')
    (first | exact keep4e x0 x1 x2 x3 y0 y1 y2 HNM.out HBM.out ((Below.refl _ _).drew) | exact keep4e x0 x1 x2 x3 y0 y1 y2 HNM.out HBM.out (X3) | exact keep4e x0 x1 x2 x3 y0 y1 y2 HNM.out HBM.out (X4))
    (first | (go_at_call 16; (with_reducible refine (refText_any S A n c B d _ E _ HLa.out hBa hd hn HF.out).mono ?_); rw [HTX.out]; rintro e w2 ⟨rfl, hb2⟩; have X3 : Below M W1 w2 := ((Below.refl _ W1).drew).trans (hb2.mono hza); have X3z : M ≤ w2.heap.size := Below.size_le X3 hz1) | (go_at_call 18; (with_reducible refine (refApply_any T a b t _ HS1.out).mono ?_); rw [HA.out.1, HA.out.2]; rintro e w3 ⟨rfl, hb3⟩; have X4 : Below M W1 w3 := X3.trans (hb3.mono X3z); have X4z : M ≤ w3.heap.size := Below.size_le X4 hz1))
  have hNM := HNM.out
  have hMM := HMM.out
  have K3 := K1.below X4 (by omega)
  have B3 := B1.below X4 (by omega)
  have R3 := R1.below X4 (by omega)
  have hl3 := HL.out.below (X4.mono hBM)
  have hbb : Below w.heap.size w w3 := b0.trans (X4.mono (by omega))
  clear x0 x1 x2 x3 y0 y1 y2 hb2 hb3 X3 X3z X4 X4z hMM
  obtain ⟨x0, x1, x2, x3, e0, e1, e2, e3⟩ := blk4 K3
  obtain ⟨y0, y1, y2, _, _, _⟩ := blk3 B3
  obtain ⟨r0, r1, r2, r3, f0, f1, f2, f3⟩ := blk4 R3
  go_wp2_with fail
  have F1 := R3.set4 (.string S) (.slice A n c) (.int .i64 d) (.int .i64 v)
  refine bodyPost_ret (results_st_int rfl rfl (F1.cell 0) (F1.cell 1) (F1.cell 2) (F1.cell 3) hsl rfl) rfl ⟨rfl, ?_⟩
  exact (((hbb.setCell (by simp; omega) _).setCell (by simp; omega) _).setCell (by simp; omega) _).setCell (by simp; omega) _

set_option maxRecDepth 100000 in
set_option maxHeartbeats 4000000 in
theorem refDo11_any (S : ByteArray) (A : Option Addr) (n c B d v : Nat) (E : List Ed) (a b : Int) (t : ByteArray) (w : World) (hl : Reads w B 3 A n (eds E)) (hB : B ≤ w.heap.size) (hd : d ≤ n) (hn : n ≤ 1000) (hf : Fine S E) (ht : t.size ≤ 1048576) (_hv : v ≤ 1000000) (hok : Ed.ok (tx S (E.take d)).size ⟨a, b, t⟩ = true) (hbig : ¬ (apT (tx S (E.take d)) ⟨a, b, t⟩).size ≤ 4000) :
    Calls Try.prog 25 #[.agg #[.string S, .slice A n c, .int .i64 d, .int .i64 v], .agg #[.int .i64 a, .int .i64 b, .string t]] w
      fun e w' => e = .returned (.tuple #[.agg #[.string S, .slice A n c, .int .i64 d, .int .i64 v], .int .i64 11]) ∧ Below w.heap.size w w' := by
  have hsl : ∃ A' n' c', Value.slice A n c = .slice A' n' c' := ⟨_, _, _, rfl⟩
  obtain ⟨T, hT⟩ : ∃ T, tx S (E.take d) = T := ⟨_, rfl⟩
  have hTz := hf.T d
  rw [hT] at hTz hok
  have HTX := Lib.hid hT
  have HF := Lib.hid hf
  have HS1 := Lib.hid (show T.size + t.size ≤ 9223372036854775807 by omega)
  have b0 : Below w.heap.size w (((w.alloc (.cells #[.string S, .slice A n c, .int .i64 d, .int .i64 v] 29)).alloc (.cells #[.int .i64 a, .int .i64 b, .string t] 31)).alloc (.cells #[.string ⟨#[]⟩, .slice none 0 0, .int .i64 0, .int .i64 0] 29)) := (((Below.refl _ _).alloc (Nat.le_refl _) _).alloc (by simp) _).alloc (by simp; omega) _
  have K1 := ((Blk.new' w 29 #[.string S, .slice A n c, .int .i64 d, .int .i64 v] rfl).alloc (.cells #[.int .i64 a, .int .i64 b, .string t] 31)).alloc (.cells #[.string ⟨#[]⟩, .slice none 0 0, .int .i64 0, .int .i64 0] 29)
  have B1 := (Blk.new' (g := w.heap.size + 1) (w.alloc (.cells #[.string S, .slice A n c, .int .i64 d, .int .i64 v] 29)) 31 #[.int .i64 a, .int .i64 b, .string t] (by simp)).alloc (.cells #[.string ⟨#[]⟩, .slice none 0 0, .int .i64 0, .int .i64 0] 29)
  have R1 := Blk.new' (g := w.heap.size + 1 + 1) ((w.alloc (.cells #[.string S, .slice A n c, .int .i64 d, .int .i64 v] 29)).alloc (.cells #[.int .i64 a, .int .i64 b, .string t] 31)) 29 #[.string ⟨#[]⟩, .slice none 0 0, .int .i64 0, .int .i64 0] (by simp)
  have hl1 := hl.below (b0.mono hB)
  obtain ⟨W1, hW1⟩ : ∃ W1, W1 = ((w.alloc (.cells #[.string S, .slice A n c, .int .i64 d, .int .i64 v] 29)).alloc (.cells #[.int .i64 a, .int .i64 b, .string t] 31)).alloc (.cells #[.string ⟨#[]⟩, .slice none 0 0, .int .i64 0, .int .i64 0] 29) := ⟨_, rfl⟩
  have hM : W1.heap.size = w.heap.size + 1 + 1 + 1 := by rw [hW1]; simp
  rw [← hW1] at b0 K1 B1 R1 hl1
  have WAIT := Lib.hid hW1
  obtain ⟨M, hMM⟩ : ∃ M, w.heap.size + 1 + 1 + 1 = M := ⟨_, rfl⟩
  rw [hMM] at hM
  have hz1 : M ≤ W1.heap.size := by omega
  have hza : M ≤ W1.drew.heap.size := hz1
  have hBM : B ≤ M := by omega
  have HL := Lib.hid hl1
  have HLa := Lib.hid (reads_drew hl1)
  have hBa : B ≤ W1.drew.heap.size := by show B ≤ W1.heap.size; omega
  have HNM := Lib.hid (show w.heap.size < M by omega)
  have HBM := Lib.hid (show w.heap.size + 1 < M by omega)
  obtain ⟨x0, x1, x2, x3, _, _, _, _⟩ := blk4 K1
  obtain ⟨y0, y1, y2, _, _, _⟩ := blk3 B1
  have HMM := Lib.hid hMM
  rw [hT] at hbig
  obtain ⟨T2, hT2⟩ : ∃ T2, apT T ⟨a, b, t⟩ = T2 := ⟨_, rfl⟩
  rw [hT2] at hbig
  have HA := Lib.hid (show apT T ⟨a, b, t⟩ = T2 ∧ apF T ⟨a, b, t⟩ = 0 from ⟨hT2, by simp [apF, hok]⟩)
  have d1 : decide ((4000 : Int) < T2.size) = true := by simp; omega
  have d2 : decide (4000 < T2.size) = true := by simp; omega
  clear hl hl1 hf hT hW1 hM hMM hok hT2
  go_enter Try.func25, Try.ntmps25
  go_wp2_with fail
  rw [← WAIT.out]
  go_region_held3 (fun w' => w'.cell? ⟨w.heap.size, 0, none⟩ = some (.string S) ∧ w'.cell? ⟨w.heap.size, 1, none⟩ = some (.slice A n c) ∧ w'.cell? ⟨w.heap.size, 2, none⟩ = some (.int .i64 d) ∧ w'.cell? ⟨w.heap.size, 3, none⟩ = some (.int .i64 v) ∧ w'.cell? ⟨w.heap.size + 1, 0, none⟩ = some (.int .i64 a) ∧ w'.cell? ⟨w.heap.size + 1, 1, none⟩ = some (.int .i64 b) ∧ w'.cell? ⟨w.heap.size + 1, 2, none⟩ = some (.string t) ∧ Below M W1 w')
    (first | exact keep4e x0 x1 x2 x3 y0 y1 y2 HNM.out HBM.out ((Below.refl _ _).drew) | exact keep4e x0 x1 x2 x3 y0 y1 y2 HNM.out HBM.out (X3) | exact keep4e x0 x1 x2 x3 y0 y1 y2 HNM.out HBM.out (X4))
    (first | (go_at_call 16; (with_reducible refine (refText_any S A n c B d _ E _ HLa.out hBa hd hn HF.out).mono ?_); rw [HTX.out]; rintro e w2 ⟨rfl, hb2⟩; have X3 : Below M W1 w2 := ((Below.refl _ W1).drew).trans (hb2.mono hza); have X3z : M ≤ w2.heap.size := Below.size_le X3 hz1) | (go_at_call 18; (with_reducible refine (refApply_any T a b t _ HS1.out).mono ?_); rw [HA.out.1, HA.out.2]; rintro e w3 ⟨rfl, hb3⟩; have X4 : Below M W1 w3 := X3.trans (hb3.mono X3z); have X4z : M ≤ w3.heap.size := Below.size_le X4 hz1))
  have hNM := HNM.out
  have hMM := HMM.out
  have K3 := K1.below X4 (by omega)
  have B3 := B1.below X4 (by omega)
  have R3 := R1.below X4 (by omega)
  have hl3 := HL.out.below (X4.mono hBM)
  have hbb : Below w.heap.size w w3 := b0.trans (X4.mono (by omega))
  clear x0 x1 x2 x3 y0 y1 y2 hb2 hb3 X3 X3z X4 X4z hMM
  obtain ⟨x0, x1, x2, x3, e0, e1, e2, e3⟩ := blk4 K3
  obtain ⟨y0, y1, y2, _, _, _⟩ := blk3 B3
  obtain ⟨r0, r1, r2, r3, f0, f1, f2, f3⟩ := blk4 R3
  go_wp2_with fail
  have F1 := R3.set4 (.string S) (.slice A n c) (.int .i64 d) (.int .i64 v)
  refine bodyPost_ret (results_st_int rfl rfl (F1.cell 0) (F1.cell 1) (F1.cell 2) (F1.cell 3) hsl rfl) rfl ⟨rfl, ?_⟩
  exact (((hbb.setCell (by simp; omega) _).setCell (by simp; omega) _).setCell (by simp; omega) _).setCell (by simp; omega) _

set_option maxRecDepth 100000 in
set_option maxHeartbeats 8000000 in
theorem refDo0_any (S : ByteArray) (A : Option Addr) (n c B d v : Nat) (E : List Ed) (a b : Int) (t : ByteArray) (w : World) (hl : Reads w B 3 A n (eds E)) (hB : B ≤ w.heap.size) (hd : d ≤ n) (hn : n ≤ 1000) (hf : Fine S E) (ht : t.size ≤ 1048576) (_hv : v ≤ 1000000) (hnc : n ≤ c) (hok : Ed.ok (tx S (E.take d)).size ⟨a, b, t⟩ = true) (hbig : (apT (tx S (E.take d)) ⟨a, b, t⟩).size ≤ 4000) :
    Calls Try.prog 25 #[.agg #[.string S, .slice A n c, .int .i64 d, .int .i64 v], .agg #[.int .i64 a, .int .i64 b, .string t]] w
      fun e w' => ∃ A' c', e = .returned (.tuple #[.agg #[.string S, .slice A' (d + 1) c', .int .i64 ((d : Int) + 1), .int .i64 ((v : Int) + 1)], .int .i64 0]) ∧ d + 1 ≤ c' ∧ (∀ bb oo, A' = some ⟨bb, oo, none⟩ → w.heap.size ≤ bb) ∧ Reads w' w'.heap.size 3 A' (d + 1) (eds (E.take d ++ [⟨a, b, t⟩])) ∧ Below w.heap.size w w' := by
  have hsl : ∃ A' n' c', Value.slice A n c = .slice A' n' c' := ⟨_, _, _, rfl⟩
  obtain ⟨T, hT⟩ : ∃ T, tx S (E.take d) = T := ⟨_, rfl⟩
  have hTz := hf.T d
  rw [hT] at hTz hok
  have HTX := Lib.hid hT
  have HF := Lib.hid hf
  have HS1 := Lib.hid (show T.size + t.size ≤ 9223372036854775807 by omega)
  have b0 : Below w.heap.size w (((w.alloc (.cells #[.string S, .slice A n c, .int .i64 d, .int .i64 v] 29)).alloc (.cells #[.int .i64 a, .int .i64 b, .string t] 31)).alloc (.cells #[.string ⟨#[]⟩, .slice none 0 0, .int .i64 0, .int .i64 0] 29)) := (((Below.refl _ _).alloc (Nat.le_refl _) _).alloc (by simp) _).alloc (by simp; omega) _
  have K1 := ((Blk.new' w 29 #[.string S, .slice A n c, .int .i64 d, .int .i64 v] rfl).alloc (.cells #[.int .i64 a, .int .i64 b, .string t] 31)).alloc (.cells #[.string ⟨#[]⟩, .slice none 0 0, .int .i64 0, .int .i64 0] 29)
  have B1 := (Blk.new' (g := w.heap.size + 1) (w.alloc (.cells #[.string S, .slice A n c, .int .i64 d, .int .i64 v] 29)) 31 #[.int .i64 a, .int .i64 b, .string t] (by simp)).alloc (.cells #[.string ⟨#[]⟩, .slice none 0 0, .int .i64 0, .int .i64 0] 29)
  have R1 := Blk.new' (g := w.heap.size + 1 + 1) ((w.alloc (.cells #[.string S, .slice A n c, .int .i64 d, .int .i64 v] 29)).alloc (.cells #[.int .i64 a, .int .i64 b, .string t] 31)) 29 #[.string ⟨#[]⟩, .slice none 0 0, .int .i64 0, .int .i64 0] (by simp)
  have hl1 := hl.below (b0.mono hB)
  obtain ⟨W1, hW1⟩ : ∃ W1, W1 = ((w.alloc (.cells #[.string S, .slice A n c, .int .i64 d, .int .i64 v] 29)).alloc (.cells #[.int .i64 a, .int .i64 b, .string t] 31)).alloc (.cells #[.string ⟨#[]⟩, .slice none 0 0, .int .i64 0, .int .i64 0] 29) := ⟨_, rfl⟩
  have hM : W1.heap.size = w.heap.size + 1 + 1 + 1 := by rw [hW1]; simp
  rw [← hW1] at b0 K1 B1 R1 hl1
  have WAIT := Lib.hid hW1
  obtain ⟨M, hMM⟩ : ∃ M, w.heap.size + 1 + 1 + 1 = M := ⟨_, rfl⟩
  rw [hMM] at hM
  have hz1 : M ≤ W1.heap.size := by omega
  have hza : M ≤ W1.drew.heap.size := hz1
  have hBM : B ≤ M := by omega
  have HL := Lib.hid hl1
  have HLa := Lib.hid (reads_drew hl1)
  have hBa : B ≤ W1.drew.heap.size := by show B ≤ W1.heap.size; omega
  have HNM := Lib.hid (show w.heap.size < M by omega)
  have HBM := Lib.hid (show w.heap.size + 1 < M by omega)
  obtain ⟨x0, x1, x2, x3, _, _, _, _⟩ := blk4 K1
  obtain ⟨y0, y1, y2, _, _, _⟩ := blk3 B1
  have HMM := Lib.hid hMM
  rw [hT] at hbig
  obtain ⟨T2, hT2⟩ : ∃ T2, apT T ⟨a, b, t⟩ = T2 := ⟨_, rfl⟩
  rw [hT2] at hbig
  have HA := Lib.hid (show apT T ⟨a, b, t⟩ = T2 ∧ apF T ⟨a, b, t⟩ = 0 from ⟨hT2, by simp [apF, hok]⟩)
  have d1 : decide ((4000 : Int) < T2.size) = false := by simp; omega
  have d2 : decide (4000 < T2.size) = false := by simp; omega
  clear hl hl1 hf hT hW1 hM hMM hok hT2
  go_enter Try.func25, Try.ntmps25
  go_wp2_with fail
  rw [← WAIT.out]
  go_region_held3 (fun w' => w'.cell? ⟨w.heap.size, 0, none⟩ = some (.string S) ∧ w'.cell? ⟨w.heap.size, 1, none⟩ = some (.slice A n c) ∧ w'.cell? ⟨w.heap.size, 2, none⟩ = some (.int .i64 d) ∧ w'.cell? ⟨w.heap.size, 3, none⟩ = some (.int .i64 v) ∧ w'.cell? ⟨w.heap.size + 1, 0, none⟩ = some (.int .i64 a) ∧ w'.cell? ⟨w.heap.size + 1, 1, none⟩ = some (.int .i64 b) ∧ w'.cell? ⟨w.heap.size + 1, 2, none⟩ = some (.string t) ∧ Below M W1 w')
    (first | exact keep4e x0 x1 x2 x3 y0 y1 y2 HNM.out HBM.out ((Below.refl _ _).drew) | exact keep4e x0 x1 x2 x3 y0 y1 y2 HNM.out HBM.out (X3) | exact keep4e x0 x1 x2 x3 y0 y1 y2 HNM.out HBM.out (X4))
    (first | (go_at_call 16; (with_reducible refine (refText_any S A n c B d _ E _ HLa.out hBa hd hn HF.out).mono ?_); rw [HTX.out]; rintro e w2 ⟨rfl, hb2⟩; have X3 : Below M W1 w2 := ((Below.refl _ W1).drew).trans (hb2.mono hza); have X3z : M ≤ w2.heap.size := Below.size_le X3 hz1) | (go_at_call 18; (with_reducible refine (refApply_any T a b t _ HS1.out).mono ?_); rw [HA.out.1, HA.out.2]; rintro e w3 ⟨rfl, hb3⟩; have X4 : Below M W1 w3 := X3.trans (hb3.mono X3z); have X4z : M ≤ w3.heap.size := Below.size_le X4 hz1))
  have hNM := HNM.out
  have hMM := HMM.out
  have K3 := K1.below X4 (by omega)
  have B3 := B1.below X4 (by omega)
  have R3 := R1.below X4 (by omega)
  have hl3 := HL.out.below (X4.mono hBM)
  have hbb : Below w.heap.size w w3 := b0.trans (X4.mono (by omega))
  clear x0 x1 x2 x3 y0 y1 y2 hb2 hb3 X3 X3z X4 X4z hMM
  obtain ⟨x0, x1, x2, x3, e0, e1, e2, e3⟩ := blk4 K3
  obtain ⟨y0, y1, y2, _, _, _⟩ := blk3 B3
  obtain ⟨r0, r1, r2, r3, f0, f1, f2, f3⟩ := blk4 R3
  have hw3 : w.heap.size + 1 + 1 < w3.heap.size := R3.lt
  obtain ⟨i0, hi0, hz0, hz1', hz2⟩ := info_parts infoEd
  have hdl : (E.take d).length = d := by rw [List.length_take, hl3.len_eds]; omega
  have di0 : (0 : Int) ≤ (d : Int) := by omega
  have di1 : (d : Int) ≤ (c : Int) := by omega
  have dc : d ≤ c := by omega
  have ONE1 := Lib.hid (show ∀ u ∈ Ed.cells ⟨a, b, t⟩, u.oneCell' = true by simp [Ed.cells, Value.oneCell'])
  have HLN := Lib.hid hl3.len_eds
  have ONEC := Lib.hid (oneCell_eds (E.take d))
  have L63 := Lib.hid (show 0 + d ≤ maxLen by unfold maxLen; omega)
  have LBY := Lib.hid (show (0 + d) * 32 ≤ 140737488355328 by omega)
  have L63' := Lib.hid (show d + 1 ≤ maxLen by unfold maxLen; omega)
  have LBY' := Lib.hid (show (d + 1) * 32 ≤ 140737488355328 by omega)
  have hlt := reads_take hl3 hd
  have HR1 := Lib.hid (reads_drew (hlt.alloc (by omega) (.cells #[] 31)))
  have HR2 := Lib.hid (reads_drew ((hlt.alloc (by omega) (.cells #[] 31)).alloc (by simp; omega) (.cells #[.int .i64 a, .int .i64 b, .string t] 31)))
  have HR3 := Lib.hid (reads_drew ((hlt.alloc (by omega) (.cells #[.int .i64 a, .int .i64 b, .string t] 31)).alloc (by simp; omega) (.cells #[] 31)))
  have HO1 := Lib.hid (own_drew (own_empty w3 w3.heap.size rfl))
  have HO2 := Lib.hid (own_drew (own_below (own_empty w3 w3.heap.size rfl) ((Below.refl _ _).alloc (Nat.le_refl _) (.cells #[.int .i64 a, .int .i64 b, .string t] 31))))
  have HO3 := Lib.hid (own_drew (own_empty (w3.alloc (.cells #[.int .i64 a, .int .i64 b, .string t] 31)) (w3.heap.size + 1) (by simp)))
  have KW1 := Lib.hid (blk_drew (K3.alloc (.cells #[] 31)))
  have KW2 := Lib.hid (blk_drew ((K3.alloc (.cells #[] 31)).alloc (.cells #[.int .i64 a, .int .i64 b, .string t] 31)))
  have KW3 := Lib.hid (blk_drew ((K3.alloc (.cells #[.int .i64 a, .int .i64 b, .string t] 31)).alloc (.cells #[] 31)))
  have BW1 := Lib.hid (blk_drew (B3.alloc (.cells #[] 31)))
  have BW2 := Lib.hid (blk_drew ((B3.alloc (.cells #[] 31)).alloc (.cells #[.int .i64 a, .int .i64 b, .string t] 31)))
  have BW3 := Lib.hid (blk_drew ((B3.alloc (.cells #[.int .i64 a, .int .i64 b, .string t] 31)).alloc (.cells #[] 31)))
  have RW1 := Lib.hid (blk_drew (R3.alloc (.cells #[] 31)))
  have RW2 := Lib.hid (blk_drew ((R3.alloc (.cells #[] 31)).alloc (.cells #[.int .i64 a, .int .i64 b, .string t] 31)))
  have RW3 := Lib.hid (blk_drew ((R3.alloc (.cells #[.int .i64 a, .int .i64 b, .string t] 31)).alloc (.cells #[] 31)))
  have ZW2 := Lib.hid (blk_drew (Blk.new' (g := w3.heap.size + 1) (w3.alloc (.cells #[] 31)) 31 #[.int .i64 a, .int .i64 b, .string t] (by simp)))
  have ZW3 := Lib.hid (blk_drew ((Blk.new' (g := w3.heap.size) w3 31 #[.int .i64 a, .int .i64 b, .string t] rfl).alloc (.cells #[] 31)))
  have HBL1 := Lib.hid (below_drewN (hbb.alloc hbb.size (.cells #[] 31)) 1)
  have HBL2 := Lib.hid (below_drewN ((hbb.alloc hbb.size (.cells #[] 31)).alloc (hbb.alloc hbb.size (.cells #[] 31)).size (.cells #[.int .i64 a, .int .i64 b, .string t] 31)) 1)
  have HBL3 := Lib.hid (below_drewN ((hbb.alloc hbb.size (.cells #[.int .i64 a, .int .i64 b, .string t] 31)).alloc (hbb.alloc hbb.size (.cells #[.int .i64 a, .int .i64 b, .string t] 31)).size (.cells #[] 31)) 1)
  have HLW := Lib.hid hw3
  have NKa := Lib.hid (ne_own (g := w.heap.size) (x := w3.heap.size) (by omega))
  have NBa := Lib.hid (ne_own (g := w.heap.size + 1) (x := w3.heap.size) (by omega))
  have NRa := Lib.hid (ne_own (g := w.heap.size + 1 + 1) (x := w3.heap.size) (by omega))
  have NKc := Lib.hid (ne_own (g := w.heap.size) (x := w3.heap.size + 1) (by omega))
  have NBc := Lib.hid (ne_own (g := w.heap.size + 1) (x := w3.heap.size + 1) (by omega))
  have NRc := Lib.hid (ne_own (g := w.heap.size + 1 + 1) (x := w3.heap.size + 1) (by omega))
  have NZb := Lib.hid (ne_own (g := w3.heap.size + 1) (x := w3.heap.size) (by omega))
  have NZc := Lib.hid (ne_own (g := w3.heap.size) (x := w3.heap.size + 1) (by omega))
  have GRa := Lib.hid (own_ge (g := w.heap.size) (x := w3.heap.size) (by omega))
  have GRc := Lib.hid (own_ge (g := w.heap.size) (x := w3.heap.size + 1) (by omega))
  have S1 : w3.heap.size ≤ (w3.alloc (.cells #[] 31)).drew.heap.size := size_al0' (Nat.le_refl _)
  have S2 : w3.heap.size ≤ ((w3.alloc (.cells #[] 31)).alloc (.cells #[.int .i64 a, .int .i64 b, .string t] 31)).drew.heap.size := size_al0' (size_al0 (Nat.le_refl _))
  have S3 : w3.heap.size ≤ ((w3.alloc (.cells #[.int .i64 a, .int .i64 b, .string t] 31)).alloc (.cells #[] 31)).drew.heap.size := size_al0' (size_al0 (Nat.le_refl _))
  have LEW : w.heap.size ≤ w3.heap.size := by omega
  have LEZ : w3.heap.size ≤ w3.heap.size + 1 := by omega
  have LK : w.heap.size < w3.heap.size := by omega
  have LR : w.heap.size + 1 + 1 < w3.heap.size := hw3
  have x1a := cell_alloc x1 (.cells #[] 31)
  have x2a := cell_alloc x2 (.cells #[] 31)
  have x1b := cell_alloc x1 (.cells #[.int .i64 a, .int .i64 b, .string t] 31)
  have x2b := cell_alloc x2 (.cells #[.int .i64 a, .int .i64 b, .string t] 31)
  have x1c := cell_alloc x1a (.cells #[.int .i64 a, .int .i64 b, .string t] 31)
  have x2c := cell_alloc x2a (.cells #[.int .i64 a, .int .i64 b, .string t] 31)
  have x1d := cell_alloc x1b (.cells #[] 31)
  have x2d := cell_alloc x2b (.cells #[] 31)
  have y0a := cell_alloc y0 (.cells #[] 31)
  have y1a := cell_alloc y1 (.cells #[] 31)
  have y2a := cell_alloc y2 (.cells #[] 31)
  clear hlt hl3 K3 B3 R3 hdl hw3 K1 B1 R1 hz1 hza hBM hBa b0 hNM
  go_upto_region 6 with fail
  clear hbig d1 d2 f0 f1 f2 f3 r0 r1 r2 r3 e0 e1 e2 e3
  go_cut [] (fun wx => DoCut w S d v (E.take d ++ [⟨a, b, t⟩]) wx)
  case first =>
    go_region_law (first
      | (refine step_append_any _ (by rfl) _ _ _ (by rfl) 0 31 i0 _ 3 32 Try.underlying27 hi0 hz0 hz1' hz2 rfl (by omega) _ 0 [] (by rfl) HO1.out B A d c (eds (E.take d)) (by rfl) HR1.out ONEC.out L63.out LBY.out (Nat.zero_le _) ?_; intro v1 w4 hown0 hgrow hat; have hown1 := own_fix hown0; have K4 := KW1.out.grown hgrow NKa.out; have B4 := BW1.out.grown hgrow NBa.out; have R4 := RW1.out.grown hgrow NRa.out; obtain ⟨p0, p1, p2, _, _, _⟩ := blk3 B4; have HBL4 := Below.grown HBL1.out hgrow (Nat.le_trans LEW S1) GRa.out; have NEV := ne_hat hat (Nat.le_refl _) S1; have S4 : w3.heap.size ≤ w4.heap.size := Nat.le_trans S1 hgrow.size; clear hown0)
      | (refine step_append_any _ (by rfl) _ _ _ (by rfl) 0 31 i0 _ 3 32 Try.underlying27 hi0 hz0 hz1' hz2 rfl (by omega) _ 0 [] (by rfl) HO2.out B A d c (eds (E.take d)) (by rfl) HR2.out ONEC.out L63.out LBY.out (Nat.zero_le _) ?_; intro v1 w4 hown0 hgrow hat; have hown1 := own_fix hown0; have K4 := KW2.out.grown hgrow NKa.out; have B4 := BW2.out.grown hgrow NBa.out; have R4 := RW2.out.grown hgrow NRa.out; obtain ⟨p0, p1, p2, _, _, _⟩ := blk3 B4; have HBL4 := Below.grown HBL2.out hgrow (Nat.le_trans LEW S2) GRa.out; have NEV := ne_hat hat (Nat.le_refl _) S2; have S4 : w3.heap.size ≤ w4.heap.size := Nat.le_trans S2 hgrow.size; have Z4 := ZW2.out.grown hgrow NZb.out; clear hown0)
      | (refine step_append_any _ (by rfl) _ _ _ (by rfl) 0 31 i0 _ 3 32 Try.underlying27 hi0 hz0 hz1' hz2 rfl (by omega) _ 0 [] (by rfl) HO3.out B A d c (eds (E.take d)) (by rfl) HR3.out ONEC.out L63.out LBY.out (Nat.zero_le _) ?_; intro v1 w4 hown0 hgrow hat; have hown1 := own_fix hown0; have K4 := KW3.out.grown hgrow NKc.out; have B4 := BW3.out.grown hgrow NBc.out; have R4 := RW3.out.grown hgrow NRc.out; obtain ⟨p0, p1, p2, _, _, _⟩ := blk3 B4; have HBL4 := Below.grown HBL3.out hgrow (Nat.le_trans LEW S3) GRc.out; have NEV := ne_hat hat (LEZ) S3; have S4 : w3.heap.size ≤ w4.heap.size := Nat.le_trans S3 hgrow.size; have Z4 := ZW3.out.grown hgrow NZc.out; clear hown0)
      | (refine step_append_lies _ (by rfl) _ _ _ (by rfl) 0 31 i0 _ 3 32 Try.underlying27 hi0 hz0 hz1' hz2 rfl (by omega) _ d (eds (E.take d)) (by rfl) (hown1.alloc _) ⟨w4.heap.size, 0, none⟩ 1 1 (Ed.cells ⟨a, b, t⟩) (by rfl) (by rfl) (news_new w4 ()) ONE1.out (by omega) L63'.out LBY'.out (Nat.zero_le _) (w4.heap.size + 1) (by simp) ?_; intro gg cap w5 hown5 hgrow5 hat5 hlt5; have K5 := (K4.alloc (.cells #[.int .i64 a, .int .i64 b, .string t] 31)).grown hgrow5 (NEV.1 _ LK); have R5 := (R4.alloc (.cells #[.int .i64 a, .int .i64 b, .string t] 31)).grown hgrow5 (NEV.1 _ LR); obtain ⟨u0, u1, u2, u3, c0, c1, c2, c3⟩ := blk4 K5; have HBL5 := Below.grown (HBL4.alloc HBL4.size (.cells #[.int .i64 a, .int .i64 b, .string t] 31)) hgrow5 (size_al0 HBL4.size) (fun k hk => Nat.le_trans LEW (NEV.2 k hk)); have GE := gg_ge hat5 (fun k hk => Nat.le_trans LEW (NEV.2 k hk)) (Nat.le_trans LEW (Nat.le_succ_of_le S4)))
      | (refine step_append_lies _ (by rfl) _ _ _ (by rfl) 0 31 i0 _ 3 32 Try.underlying27 hi0 hz0 hz1' hz2 rfl (by omega) _ d (eds (E.take d)) (by rfl) hown1 ⟨w3.heap.size + 1, 0, none⟩ 1 1 (Ed.cells ⟨a, b, t⟩) (by rfl) (by rfl) (news_blk Z4) ONE1.out (by omega) L63'.out LBY'.out (Nat.zero_le _) (w4.heap.size) (by rfl) ?_; intro gg cap w5 hown5 hgrow5 hat5 hlt5; have K5 := (K4).grown hgrow5 (NEV.1 _ LK); have R5 := (R4).grown hgrow5 (NEV.1 _ LR); obtain ⟨u0, u1, u2, u3, c0, c1, c2, c3⟩ := blk4 K5; have HBL5 := Below.grown (HBL4) hgrow5 HBL4.size (fun k hk => Nat.le_trans LEW (NEV.2 k hk)); have GE := gg_ge hat5 (fun k hk => Nat.le_trans LEW (NEV.2 k hk)) (Nat.le_trans LEW S4))
      | (refine step_append_lies _ (by rfl) _ _ _ (by rfl) 0 31 i0 _ 3 32 Try.underlying27 hi0 hz0 hz1' hz2 rfl (by omega) _ d (eds (E.take d)) (by rfl) hown1 ⟨w3.heap.size, 0, none⟩ 1 1 (Ed.cells ⟨a, b, t⟩) (by rfl) (by rfl) (news_blk Z4) ONE1.out (by omega) L63'.out LBY'.out (Nat.zero_le _) (w4.heap.size) (by rfl) ?_; intro gg cap w5 hown5 hgrow5 hat5 hlt5; have K5 := (K4).grown hgrow5 (NEV.1 _ LK); have R5 := (R4).grown hgrow5 (NEV.1 _ LR); obtain ⟨u0, u1, u2, u3, c0, c1, c2, c3⟩ := blk4 K5; have HBL5 := Below.grown (HBL4) hgrow5 HBL4.size (fun k hk => Nat.le_trans LEW (NEV.2 k hk)); have GE := gg_ge hat5 (fun k hk => Nat.le_trans LEW (NEV.2 k hk)) (Nat.le_trans LEW S4)))
    all_goals (go_wp2_with fail; go_meet; exact do_cut hown5 K5 R5 HBL5 GE)
  case rest =>
    obtain ⟨gg, cap, hge, h1, h2, h3, h4⟩ := hcut
    have hgN := own_blk_ne h1 h2 (by decide)
    have hgR := own_blk_ne h1 h3 (by decide)
    have hgN' : gg ≠ w.heap.size := by simpa [Value.ownBlock] using hgN
    have hgR' : gg ≠ w.heap.size + 1 + 1 := by simpa [Value.ownBlock] using hgR
    have HO := Lib.hid h1
    have HK := Lib.hid h2
    have HR := Lib.hid h3
    obtain ⟨u0, u1, u2, u3, c0, c1, c2, c3⟩ := blk4 h2
    obtain ⟨r0', r1', r2', r3', f0', f1', f2', f3'⟩ := blk4 h3
    have w1 : IntKind.i64.wrap ((d : Int) + 1) = (d : Int) + 1 := IntWalk.i64_in _ (by omega)
    have w2 : IntKind.i64.wrap ((v : Int) + 1) = (v : Int) + 1 := IntWalk.i64_in _ (by omega)
    clear h1 h2 h3 x0 x1 x2 x3 y0 y1 y2 x1a x2a x1b x2b x1c x2c x1d x2d y0a y1a y2a
    go_wp2_with fail
    have F1 := ((HR.out.far (p := ⟨w.heap.size, 2, none⟩) (by show w.heap.size + 1 + 1 ≠ w.heap.size; omega) (.int .i64 ((d : Int) + 1))).far (p := ⟨w.heap.size, 3, none⟩) (by show w.heap.size + 1 + 1 ≠ w.heap.size; omega) (.int .i64 ((v : Int) + 1))).set4 (.string S) (.slice (some ⟨gg, 0, none⟩) (d + 1) cap) (.int .i64 ((d : Int) + 1)) (.int .i64 ((v : Int) + 1))
    have T1 := ((Touch.refl (fun k => k = w.heap.size ∨ k = w.heap.size + 1 + 1) wc).setCell (p := ⟨w.heap.size, 2, none⟩) (.inl (.inl rfl)) (.int .i64 ((d : Int) + 1))).setCell (p := ⟨w.heap.size, 3, none⟩) (.inl (.inl rfl)) (.int .i64 ((v : Int) + 1))
    have T2' := (((T1.setCell (p := ⟨w.heap.size + 1 + 1, 0, none⟩) (.inl (.inr rfl)) (.string S)).setCell (p := ⟨w.heap.size + 1 + 1, 1, none⟩) (.inl (.inr rfl)) (.slice (some ⟨gg, 0, none⟩) (d + 1) cap)).setCell (p := ⟨w.heap.size + 1 + 1, 2, none⟩) (.inl (.inr rfl)) (.int .i64 ((d : Int) + 1))).setCell (p := ⟨w.heap.size + 1 + 1, 3, none⟩) (.inl (.inr rfl)) (.int .i64 ((v : Int) + 1))
    have O2 := own_touch HO.out T2' (fun k hk e => by
      have : gg = k := by simpa [Value.ownBlock] using hk
      rcases e with e | e <;> omega)
    have hcap : d + 1 ≤ cap := by
      obtain ⟨A', c', e1, e2, _⟩ := own_form HO.out
      injection e1 with _ _ e3
      omega
    refine bodyPost_ret (results_st_int rfl rfl (F1.cell 0) (F1.cell 1) (F1.cell 2) (F1.cell 3) ⟨_, _, _, rfl⟩ rfl) rfl ⟨_, cap, rfl, hcap, (fun bb oo e => by injection e with e; injection e with e _; omega), Reads.of_own O2, ?_⟩
    exact (((((h4.setCell (Nat.le_refl _) _).setCell (Nat.le_refl _) _).setCell (by show w.heap.size ≤ w.heap.size + 1 + 1; omega) _).setCell (by show w.heap.size ≤ w.heap.size + 1 + 1; omega) _).setCell (by show w.heap.size ≤ w.heap.size + 1 + 1; omega) _).setCell (by show w.heap.size ≤ w.heap.size + 1 + 1; omega) _
end Go.Proofs.Ytepohmklbfkdfaa
