/- The reference's Undo and Redo. -/
import Derived.Test.YtepohmklbfkdfaaURefT
namespace Go.Proofs.Ytepohmklbfkdfaa
open Go.RowKit

theorem results_st_ed_int {fn : Func} {p q r : Tmp} (h : fn.results = #[.cell p 29, .cell q 31, .tmp r]) {tmps : Array Value} {b b2 : Nat} (hp : tmps.getD p undef = .pointer (some ⟨b, 0, none⟩)) (hq : tmps.getD q undef = .pointer (some ⟨b2, 0, none⟩)) {w : World}
    {S : ByteArray} {sl : Value} {d v i j : Int} {t : ByteArray} {x : Value}
    (h0 : w.cell? ⟨b, 0, none⟩ = some (.string S)) (h1 : w.cell? ⟨b, 1, none⟩ = some sl) (h2 : w.cell? ⟨b, 2, none⟩ = some (.int .i64 d)) (h3 : w.cell? ⟨b, 3, none⟩ = some (.int .i64 v)) (hs : ∃ A n c, sl = .slice A n c)
    (g0 : w.cell? ⟨b2, 0, none⟩ = some (.int .i64 i)) (g1 : w.cell? ⟨b2, 1, none⟩ = some (.int .i64 j)) (g2 : w.cell? ⟨b2, 2, none⟩ = some (.string t)) (hv : tmps.getD r undef = x) :
    (results fn tmps).run Try.prog w = .ok (.tuple #[.agg #[.string S, sl, .int .i64 d, .int .i64 v], .agg #[.int .i64 i, .int .i64 j, .string t], x]) w := by
  obtain ⟨A, n, c, rfl⟩ := hs
  have hp' : tmps[p]?.getD undef = .pointer (some ⟨b, 0, none⟩) := by rw [← hp]; simp
  have hq' : tmps[q]?.getD undef = .pointer (some ⟨b2, 0, none⟩) := by rw [← hq]; simp
  have hv' : tmps[r]?.getD undef = x := by rw [← hv]; simp
  simp only [results, h]
  simp [go_sem, asAddr, hp', hq', hv', h0, h1, h2, h3, g0, g1, g2]
theorem Blk.set4' {w : World} {g : Nat} {t : TypeId} {a0 a1 a2 a3 : Value} (h : Blk w g t #[a0, a1, a2, a3]) (x0 x1 x2 x3 : Value) :
    Blk ((((w.setCell ⟨g, 0, none⟩ x0).setCell ⟨g, 1, none⟩ x1).setCell ⟨g, 2, none⟩ x2).setCell ⟨g, 3, none⟩ x3) g t #[x0, x1, x2, x3] := h.set4 x0 x1 x2 x3

set_option maxRecDepth 100000 in
set_option maxHeartbeats 2000000 in
theorem refUndo0_any (S : ByteArray) (A : Option Addr) (n c v : Nat) (w : World) :
    Calls Try.prog 23 #[.agg #[.string S, .slice A n c, .int .i64 0, .int .i64 v]] w
      fun e w' => e = .returned (.tuple #[.agg #[.string S, .slice A n c, .int .i64 0, .int .i64 v], .agg #[.int .i64 0, .int .i64 0, .string ⟨#[]⟩], .int .i64 15]) ∧ Below w.heap.size w w' := by
  have hsl : ∃ A' n' c', Value.slice A n c = .slice A' n' c' := ⟨_, _, _, rfl⟩
  go_enter Try.func23, Try.ntmps23
  go_wp2_with fail
  have B1 := ((Blk.new' (g := w.heap.size + 1) (w.alloc (.cells #[.string S, .slice A n c, .int .i64 0, .int .i64 v] 29)) 29 #[.string S, .slice A n c, .int .i64 0, .int .i64 v] (by simp)).alloc (.cells #[.int .i64 0, .int .i64 0, .string ⟨#[]⟩] 31))
  have B2 := Blk.new' (g := w.heap.size + 1 + 1) ((w.alloc (.cells #[.string S, .slice A n c, .int .i64 0, .int .i64 v] 29)).alloc (.cells #[.string S, .slice A n c, .int .i64 0, .int .i64 v] 29)) 31 #[.int .i64 0, .int .i64 0, .string ⟨#[]⟩] (by simp)
  refine bodyPost_ret (results_st_ed_int rfl rfl rfl (B1.cell 0) (B1.cell 1) (B1.cell 2) (B1.cell 3) hsl (B2.cell 0) (B2.cell 1) (B2.cell 2) rfl) rfl ⟨rfl, ?_⟩
  exact (((Below.refl _ _).alloc (Nat.le_refl _) _).alloc (by simp) _).alloc (by simp; omega) _

-- HELP --
theorem blk3 {w : World} {g : Nat} {t : TypeId} {x y z : Value} (K : Blk w g t #[x, y, z]) : w.cell? ⟨g, 0, none⟩ = some x ∧ w.cell? ⟨g, 1, none⟩ = some y ∧ w.cell? ⟨g, 2, none⟩ = some z ∧ w.frozen? ⟨g, 0, none⟩ = false ∧ w.frozen? ⟨g, 1, none⟩ = false ∧ w.frozen? ⟨g, 2, none⟩ = false :=
  ⟨K.cell 0, K.cell 1, K.cell 2, K.frozen 0, K.frozen 1, K.frozen 2⟩
theorem blk4 {w : World} {g : Nat} {t : TypeId} {x y z u : Value} (K : Blk w g t #[x, y, z, u]) : w.cell? ⟨g, 0, none⟩ = some x ∧ w.cell? ⟨g, 1, none⟩ = some y ∧ w.cell? ⟨g, 2, none⟩ = some z ∧ w.cell? ⟨g, 3, none⟩ = some u ∧
    w.frozen? ⟨g, 0, none⟩ = false ∧ w.frozen? ⟨g, 1, none⟩ = false ∧ w.frozen? ⟨g, 2, none⟩ = false ∧ w.frozen? ⟨g, 3, none⟩ = false :=
  ⟨K.cell 0, K.cell 1, K.cell 2, K.cell 3, K.frozen 0, K.frozen 1, K.frozen 2, K.frozen 3⟩
theorem keep7 {w w' : World} {M N b i : Nat} {x0 x1 x2 x3 p q r : Value} (h0 : w.cell? ⟨N, 0, none⟩ = some x0) (h1 : w.cell? ⟨N, 1, none⟩ = some x1) (h2 : w.cell? ⟨N, 2, none⟩ = some x2) (h3 : w.cell? ⟨N, 3, none⟩ = some x3)
    (g0 : w.cell? ⟨b, i, none⟩ = some p) (g1 : w.cell? ⟨b, i + 1, none⟩ = some q) (g2 : w.cell? ⟨b, i + 2, none⟩ = some r) (hN : N < M) (hb : b < M) (hB : Below M w w') :
    w'.cell? ⟨N, 0, none⟩ = some x0 ∧ w'.cell? ⟨N, 1, none⟩ = some x1 ∧ w'.cell? ⟨N, 2, none⟩ = some x2 ∧ w'.cell? ⟨N, 3, none⟩ = some x3 ∧ w'.cell? ⟨b, i, none⟩ = some p ∧ w'.cell? ⟨b, i + 1, none⟩ = some q ∧ w'.cell? ⟨b, i + 2, none⟩ = some r ∧ Below M w w' :=
  ⟨(hB.cell (p := ⟨N, 0, none⟩) hN).trans h0, (hB.cell (p := ⟨N, 1, none⟩) hN).trans h1, (hB.cell (p := ⟨N, 2, none⟩) hN).trans h2, (hB.cell (p := ⟨N, 3, none⟩) hN).trans h3,
   (hB.cell (p := ⟨b, i, none⟩) hb).trans g0, (hB.cell (p := ⟨b, i + 1, none⟩) hb).trans g1, (hB.cell (p := ⟨b, i + 2, none⟩) hb).trans g2, hB⟩
theorem reads_drew {w : World} {B size n : Nat} {A : Option Addr} {xs : List Value} (h : Reads w B size A n xs) : Reads w.drew B size A n xs := h

theorem end7 {w W3 : World} {N1 N2 : Nat} {a0 a1 a2 a3 b0 b1 b2 : Value} (R3 : Blk W3 N1 29 #[a0, a1, a2, a3]) (R4 : Blk W3 N2 31 #[b0, b1, b2]) (hne : N1 ≠ N2) (hb : Below w.heap.size w W3) (h1 : w.heap.size ≤ N1) (h2 : w.heap.size ≤ N2) (S : ByteArray) (sl k v i j t : Value) :
    Blk ((((((((W3.setCell ⟨N1, 0, none⟩ (.string S)).setCell ⟨N1, 1, none⟩ sl).setCell ⟨N1, 2, none⟩ k).setCell ⟨N1, 3, none⟩ v).setCell ⟨N2, 0, none⟩ i).setCell ⟨N2, 1, none⟩ j).setCell ⟨N2, 2, none⟩ t).drew) N1 29 #[.string S, sl, k, v] ∧
    Blk ((((((((W3.setCell ⟨N1, 0, none⟩ (.string S)).setCell ⟨N1, 1, none⟩ sl).setCell ⟨N1, 2, none⟩ k).setCell ⟨N1, 3, none⟩ v).setCell ⟨N2, 0, none⟩ i).setCell ⟨N2, 1, none⟩ j).setCell ⟨N2, 2, none⟩ t).drew) N2 31 #[i, j, t] ∧
    Below w.heap.size w ((((((((W3.setCell ⟨N1, 0, none⟩ (.string S)).setCell ⟨N1, 1, none⟩ sl).setCell ⟨N1, 2, none⟩ k).setCell ⟨N1, 3, none⟩ v).setCell ⟨N2, 0, none⟩ i).setCell ⟨N2, 1, none⟩ j).setCell ⟨N2, 2, none⟩ t).drew) :=
  ⟨blk_drew ((((R3.set4 (.string S) sl k v).far (p := ⟨N2, 0, none⟩) hne i).far (p := ⟨N2, 1, none⟩) hne j).far (p := ⟨N2, 2, none⟩) hne t),
   blk_drew (((((R4.far (p := ⟨N1, 0, none⟩) (Ne.symm hne) (.string S)).far (p := ⟨N1, 1, none⟩) (Ne.symm hne) sl).far (p := ⟨N1, 2, none⟩) (Ne.symm hne) k).far (p := ⟨N1, 3, none⟩) (Ne.symm hne) v).set3 i j t),
   below_drewN (((((((hb.setCell h1 _).setCell h1 _).setCell h1 _).setCell h1 _).setCell h2 _).setCell h2 _).setCell h2 _) 1⟩
theorem size_al0 {w : World} {N : Nat} {o : Obj} (h : N ≤ w.heap.size) : N ≤ (w.alloc o).heap.size := by simp; omega
theorem size_al0' {w : World} {N : Nat} {o : Obj} (h : N ≤ w.heap.size) : N ≤ (w.alloc o).drew.heap.size := by show N ≤ (w.alloc o).heap.size; simp; omega
theorem size_al1 (w : World) {o : Obj} : w.heap.size < (w.alloc o).heap.size := by simp

set_option maxRecDepth 100000 in
set_option maxHeartbeats 8000000 in
theorem refUndo_any (S : ByteArray) (A : Option Addr) (n c B k v : Nat) (E : List Ed) (x : Ed) (w : World) (hl : Reads w B 3 A n (eds E)) (hB : B ≤ w.heap.size) (hk : k < n) (hn : n ≤ 1000) (hf : Fine S E) (hx : E[k]? = some x) (hv : v ≤ 1000000) :
    Calls Try.prog 23 #[.agg #[.string S, .slice A n c, .int .i64 ((k : Int) + 1), .int .i64 v]] w
      fun e w' => e = .returned (.tuple #[.agg #[.string S, .slice A n c, .int .i64 k, .int .i64 ((v : Int) + 1)], .agg #[.int .i64 (inv (tx S (E.take k)) x).pos, .int .i64 (inv (tx S (E.take k)) x).del, .string (inv (tx S (E.take k)) x).ins], .int .i64 0]) ∧ Below w.heap.size w w' := by
  have hsl : ∃ A' n' c', Value.slice A n c = .slice A' n' c' := ⟨_, _, _, rfl⟩
  have v1 : IntKind.i64.wrap ((k : Int) + 1 - 1) = (k : Int) := by rw [IntWalk.i64_in _ (by omega)]; omega
  have v2 : ((k : Int) + 1 == 0) = false := by rw [beq_eq_false_iff_ne]; omega
  obtain ⟨T, hT⟩ : ∃ T, tx S (E.take k) = T := ⟨_, rfl⟩
  have hTz := hf.T k
  have hxz := hf.I x (List.mem_of_getElem? hx)
  obtain ⟨b, off, x', rfl, hbl, hx', h0, h1, h2⟩ := hl.ed_at hk
  have hxx := hx'.symm.trans hx
  injection hxx with hxx
  subst hxx
  obtain ⟨xp, xd, xi⟩ := x'
  obtain ⟨⟨ip, id, ii⟩, hI⟩ : ∃ I, inv T ⟨xp, xd, xi⟩ = I := ⟨_, rfl⟩
  rw [hT] at hTz ⊢
  rw [hI]
  simp only at h0 h1 h2 hxz
  have HTX := Lib.hid hT
  have HI := Lib.hid hI
  have HF := Lib.hid hf
  have HS1 := Lib.hid (show T.size ≤ 9223372036854775807 by omega)
  have HS2 := Lib.hid (show xi.size ≤ 9223372036854775807 by omega)
  have HKN := Lib.hid (Nat.le_of_lt hk)
  have ki0 : (0 : Int) ≤ (k : Int) := by omega
  have ki1 : (k : Int) < (n : Int) := by omega
  have b1 : Below w.heap.size w (((w.alloc (.cells #[.string S, .slice (some ⟨b, off, none⟩) n c, .int .i64 k, .int .i64 ((v : Int) + 1)] 29)).alloc (.cells #[.string ⟨#[]⟩, .slice none 0 0, .int .i64 0, .int .i64 0] 29)).alloc (.cells #[.int .i64 0, .int .i64 0, .string ⟨#[]⟩] 31)) := (((Below.refl _ _).alloc (Nat.le_refl _) _).alloc (by simp) _).alloc (by simp; omega) _
  have K1 := ((Blk.new' w 29 #[.string S, .slice (some ⟨b, off, none⟩) n c, .int .i64 k, .int .i64 ((v : Int) + 1)] rfl).alloc (.cells #[.string ⟨#[]⟩, .slice none 0 0, .int .i64 0, .int .i64 0] 29)).alloc (.cells #[.int .i64 0, .int .i64 0, .string ⟨#[]⟩] 31)
  have R1 := (Blk.new' (g := w.heap.size + 1) (w.alloc (.cells #[.string S, .slice (some ⟨b, off, none⟩) n c, .int .i64 k, .int .i64 ((v : Int) + 1)] 29)) 29 #[.string ⟨#[]⟩, .slice none 0 0, .int .i64 0, .int .i64 0] (by simp)).alloc (.cells #[.int .i64 0, .int .i64 0, .string ⟨#[]⟩] 31)
  have R2 := Blk.new' (g := w.heap.size + 1 + 1) ((w.alloc (.cells #[.string S, .slice (some ⟨b, off, none⟩) n c, .int .i64 k, .int .i64 ((v : Int) + 1)] 29)).alloc (.cells #[.string ⟨#[]⟩, .slice none 0 0, .int .i64 0, .int .i64 0] 29)) 31 #[.int .i64 0, .int .i64 0, .string ⟨#[]⟩] (by simp)
  have hl1 := hl.below (b1.mono hB)
  have h0 := (b1.cell (p := ⟨b, off + k * 3, none⟩) (Nat.lt_of_lt_of_le hbl hB)).trans h0
  have h1 := (b1.cell (p := ⟨b, off + k * 3 + 1, none⟩) (Nat.lt_of_lt_of_le hbl hB)).trans h1
  have h2 := (b1.cell (p := ⟨b, off + k * 3 + 2, none⟩) (Nat.lt_of_lt_of_le hbl hB)).trans h2
  obtain ⟨W1, hW1⟩ : ∃ W1, W1 = ((w.alloc (.cells #[.string S, .slice (some ⟨b, off, none⟩) n c, .int .i64 k, .int .i64 ((v : Int) + 1)] 29)).alloc (.cells #[.string ⟨#[]⟩, .slice none 0 0, .int .i64 0, .int .i64 0] 29)).alloc (.cells #[.int .i64 0, .int .i64 0, .string ⟨#[]⟩] 31) := ⟨_, rfl⟩
  have hM : W1.heap.size = w.heap.size + 1 + 1 + 1 := by rw [hW1]; simp
  rw [← hW1] at b1 K1 R1 R2 hl1 h0 h1 h2
  have WAIT := Lib.hid hW1
  obtain ⟨M, hMM⟩ : ∃ M, w.heap.size + 1 + 1 + 1 = M := ⟨_, rfl⟩
  rw [hMM] at hM
  have hz1 : M ≤ W1.heap.size := by omega
  have hza : M ≤ W1.drew.heap.size := hz1
  have hzb : M ≤ (W1.alloc (.cells #[.int .i64 0, .int .i64 0, .string ⟨#[]⟩] 31)).drew.heap.size := size_al0' hz1
  have hzp : W1.heap.size < (W1.alloc (.cells #[.int .i64 0, .int .i64 0, .string ⟨#[]⟩] 31)).drew.heap.size := by show W1.heap.size < (W1.alloc _).heap.size; simp
  have HLa := Lib.hid (reads_drew hl1)
  have HLb := Lib.hid (reads_drew (hl1.alloc (by omega) (.cells #[.int .i64 0, .int .i64 0, .string ⟨#[]⟩] 31)))
  have hBa : B ≤ W1.drew.heap.size := by show B ≤ W1.heap.size; omega
  have hBb : B ≤ (W1.alloc (.cells #[.int .i64 0, .int .i64 0, .string ⟨#[]⟩] 31)).drew.heap.size := by show B ≤ (W1.alloc _).heap.size; simp; omega
  have PN := Lib.hid (blk_drew (Blk.new' W1 31 #[.int .i64 0, .int .i64 0, .string ⟨#[]⟩] rfl))
  have HNM := Lib.hid (show w.heap.size < M by omega)
  have HBM := Lib.hid (show b < M by omega)
  obtain ⟨x0, x1, x2, x3, _, _, _, _⟩ := blk4 K1
  have HMM := Lib.hid hMM
  clear hl hl1 hf hx' hx hT hI hW1 hM hMM
  go_enter Try.func23, Try.ntmps23
  go_wp2_with fail
  rw [← WAIT.out]
  go_region_held3 (fun w' => w'.cell? ⟨w.heap.size, 0, none⟩ = some (.string S) ∧ w'.cell? ⟨w.heap.size, 1, none⟩ = some (.slice (some ⟨b, off, none⟩) n c) ∧ w'.cell? ⟨w.heap.size, 2, none⟩ = some (.int .i64 k) ∧ w'.cell? ⟨w.heap.size, 3, none⟩ = some (.int .i64 ((v : Int) + 1)) ∧ w'.cell? ⟨b, off + k * 3, none⟩ = some (.int .i64 xp) ∧ w'.cell? ⟨b, off + k * 3 + 1, none⟩ = some (.int .i64 xd) ∧ w'.cell? ⟨b, off + k * 3 + 2, none⟩ = some (.string xi) ∧ Below M W1 w')
    (first | exact keep7 x0 x1 x2 x3 h0 h1 h2 HNM.out HBM.out ((Below.refl _ _).drew) | exact keep7 x0 x1 x2 x3 h0 h1 h2 HNM.out HBM.out (((Below.refl _ W1).alloc hz1 _).drew) | exact keep7 x0 x1 x2 x3 h0 h1 h2 HNM.out HBM.out (X3) | exact keep7 x0 x1 x2 x3 h0 h1 h2 HNM.out HBM.out (X3.alloc X3z _) | exact keep7 x0 x1 x2 x3 h0 h1 h2 HNM.out HBM.out (X4) | exact keep7 x0 x1 x2 x3 h0 h1 h2 HNM.out HBM.out (X4.alloc X4z _) | exact keep7 x0 x1 x2 x3 h0 h1 h2 HNM.out HBM.out (((X4.setCell hz1 _).setCell hz1 _).setCell hz1 _) | exact keep7 x0 x1 x2 x3 h0 h1 h2 HNM.out HBM.out (((X4.setCell X3z _).setCell X3z _).setCell X3z _))
    (first | (go_at_call 16; (with_reducible refine (refText_any S (some ⟨b, off, none⟩) n c B k _ E _ HLa.out hBa HKN.out hn HF.out).mono ?_); rw [HTX.out]; rintro e w2 ⟨rfl, hb2⟩; have X3 : Below M W1 w2 := ((Below.refl _ W1).drew).trans (hb2.mono hza); have X3z : M ≤ w2.heap.size := Below.size_le X3 hz1) | (go_at_call 16; (with_reducible refine (refText_any S (some ⟨b, off, none⟩) n c B k _ E _ HLb.out hBb HKN.out hn HF.out).mono ?_); rw [HTX.out]; rintro e w2 ⟨rfl, hb2⟩; have X3 : Below M W1 w2 := (((Below.refl _ W1).alloc hz1 _).drew).trans (hb2.mono hzb); have X3z : M ≤ w2.heap.size := Below.size_le X3 hz1; have P := (PN.out).below hb2 hzp) | (go_at_call 31; (with_reducible refine (refInvert_any T xp xd xi _ HS1.out HS2.out).mono ?_); rw [HI.out]; rintro e w3 ⟨rfl, hb3⟩; have X4 : Below M W1 w3 := X3.trans (hb3.mono X3z); have X4z : M ≤ w3.heap.size := Below.size_le X4 hz1; have P2 := P.below hb3 (Nat.lt_of_lt_of_le hzp hb2.size); obtain ⟨n0, n1, n2, m0, m1, m2⟩ := blk3 P2) | (go_at_call 31; (with_reducible refine (refInvert_any T xp xd xi _ HS1.out HS2.out).mono ?_); rw [HI.out]; rintro e w3 ⟨rfl, hb3⟩; have X4 : Below M W1 w3 := (X3.alloc X3z (.cells #[.int .i64 0, .int .i64 0, .string ⟨#[]⟩] 31)).trans (hb3.mono (size_al0 X3z)); have X4z : M ≤ w3.heap.size := Below.size_le X4 hz1; have P2 := (Blk.new' w2 31 #[.int .i64 0, .int .i64 0, .string ⟨#[]⟩] rfl).below hb3 (size_al1 w2); obtain ⟨n0, n1, n2, m0, m1, m2⟩ := blk3 P2) | (go_at_call 31; (with_reducible refine (refInvert_any T xp xd xi _ HS1.out HS2.out).mono ?_); rw [HI.out]; rintro e w3 ⟨rfl, hb3⟩; have X4 : Below M W1 w3 := X3.trans (hb3.mono X3z); have X4z : M ≤ w3.heap.size := Below.size_le X4 hz1))
  all_goals first
    | (have Q1 := ((PN.out.below hb2 hzp).below hb3 (Nat.lt_of_lt_of_le hzp hb2.size)).set3 (.int .i64 ip) (.int .i64 id) (.string ii)
       have Q2 := ((X4.setCell (p := ⟨W1.heap.size, 0, none⟩) hz1 (.int .i64 ip)).setCell (p := ⟨W1.heap.size, 1, none⟩) hz1 (.int .i64 id)).setCell (p := ⟨W1.heap.size, 2, none⟩) hz1 (.string ii)
       have Q3 := hz1
       clear n0 n1 n2 m0 m1 m2 P P2
       generalize ((w3.setCell ⟨W1.heap.size, 0, none⟩ (.int .i64 ip)).setCell ⟨W1.heap.size, 1, none⟩ (.int .i64 id)).setCell ⟨W1.heap.size, 2, none⟩ (.string ii) = W3 at *
       obtain ⟨n5, hn5⟩ : ∃ n5, W1.heap.size = n5 := ⟨_, rfl⟩
       rw [hn5] at Q1 Q3 ⊢
       clear hb2 hb3 X3 X4 X3z X4z hn5)
    | (have Q1 := ((Blk.new' w2 31 #[.int .i64 0, .int .i64 0, .string ⟨#[]⟩] rfl).below hb3 (size_al1 w2)).set3 (.int .i64 ip) (.int .i64 id) (.string ii)
       have Q2 := ((X4.setCell (p := ⟨w2.heap.size, 0, none⟩) X3z (.int .i64 ip)).setCell (p := ⟨w2.heap.size, 1, none⟩) X3z (.int .i64 id)).setCell (p := ⟨w2.heap.size, 2, none⟩) X3z (.string ii)
       have Q3 := X3z
       clear n0 n1 n2 m0 m1 m2 P2
       generalize ((w3.setCell ⟨w2.heap.size, 0, none⟩ (.int .i64 ip)).setCell ⟨w2.heap.size, 1, none⟩ (.int .i64 id)).setCell ⟨w2.heap.size, 2, none⟩ (.string ii) = W3 at *
       obtain ⟨n5, hn5⟩ : ∃ n5, w2.heap.size = n5 := ⟨_, rfl⟩
       rw [hn5] at Q1 Q3 ⊢
       clear hb2 hb3 X3 X4 X3z X4z hn5)
    | (have Q1 := Blk.new' w3 31 #[.int .i64 ip, .int .i64 id, .string ii] rfl
       have Q2 := X4.alloc X4z (.cells #[.int .i64 ip, .int .i64 id, .string ii] 31)
       have Q3 := X4z
       generalize w3.alloc (.cells #[.int .i64 ip, .int .i64 id, .string ii] 31) = W3 at *
       obtain ⟨n5, hn5⟩ : ∃ n5, w3.heap.size = n5 := ⟨_, rfl⟩
       rw [hn5] at Q1 Q3 ⊢
       clear hb2 hb3 X3 X4 X3z X4z hn5)
  all_goals
    have hNM := HNM.out
    have hMM := HMM.out
    have K3 := K1.below Q2 (by omega)
    have R3 := R1.below Q2 (by omega)
    have R4 := R2.below Q2 (by omega)
    clear x0 x1 x2 x3 h0 h1 h2
    obtain ⟨x0, x1, x2, x3, _, _, _, _⟩ := blk4 K3
    obtain ⟨q0, q1, q2, _, _, _⟩ := blk3 Q1
    obtain ⟨r0, r1, r2, r3, f0, f1, f2, f3⟩ := blk4 R3
    obtain ⟨s0, s1, s2, g0, g1, g2⟩ := blk3 R4
    have hbb : Below w.heap.size w W3 := b1.trans (Q2.mono (by omega))
    have e1 : n5 ≠ w.heap.size + 1 := by omega
    have e2 : n5 ≠ w.heap.size + 1 + 1 := by omega
    have e3 : w.heap.size + 1 ≠ n5 := by omega
    have e4 : w.heap.size + 1 + 1 ≠ n5 := by omega
    clear hMM
    go_wp2_with fail
    go_region
    all_goals
      obtain ⟨F1, F2, F3⟩ := end7 R3 R4 (by omega) hbb (by omega) (by omega) S (.slice (some ⟨b, off, none⟩) n c) (.int .i64 k) (.int .i64 ((v : Int) + 1)) (.int .i64 ip) (.int .i64 id) (.string ii)
      go_wp2_with fail
      exact bodyPost_ret (results_st_ed_int rfl rfl rfl (F1.cell 0) (F1.cell 1) (F1.cell 2) (F1.cell 3) hsl (F2.cell 0) (F2.cell 1) (F2.cell 2) rfl) rfl ⟨rfl, F3⟩

set_option maxRecDepth 100000 in
set_option maxHeartbeats 4000000 in
theorem refRedo0_any (S : ByteArray) (A : Option Addr) (n c v : Nat) (w : World) :
    Calls Try.prog 24 #[.agg #[.string S, .slice A n c, .int .i64 n, .int .i64 v]] w
      fun e w' => e = .returned (.tuple #[.agg #[.string S, .slice A n c, .int .i64 n, .int .i64 v], .agg #[.int .i64 0, .int .i64 0, .string ⟨#[]⟩], .int .i64 15]) ∧ Below w.heap.size w w' := by
  have hsl : ∃ A' n' c', Value.slice A n c = .slice A' n' c' := ⟨_, _, _, rfl⟩
  go_enter Try.func24, Try.ntmps24
  go_wp2_with fail
  have B1 := ((Blk.new' (g := w.heap.size + 1) (w.alloc (.cells #[.string S, .slice A n c, .int .i64 n, .int .i64 v] 29)) 29 #[.string S, .slice A n c, .int .i64 n, .int .i64 v] (by simp)).alloc (.cells #[.int .i64 0, .int .i64 0, .string ⟨#[]⟩] 31))
  have B2 := Blk.new' (g := w.heap.size + 1 + 1) ((w.alloc (.cells #[.string S, .slice A n c, .int .i64 n, .int .i64 v] 29)).alloc (.cells #[.string S, .slice A n c, .int .i64 n, .int .i64 v] 29)) 31 #[.int .i64 0, .int .i64 0, .string ⟨#[]⟩] (by simp)
  refine bodyPost_ret (results_st_ed_int rfl rfl rfl (B1.cell 0) (B1.cell 1) (B1.cell 2) (B1.cell 3) hsl (B2.cell 0) (B2.cell 1) (B2.cell 2) rfl) rfl ⟨rfl, ?_⟩
  exact (((Below.refl _ _).alloc (Nat.le_refl _) _).alloc (by simp) _).alloc (by simp; omega) _

set_option maxRecDepth 100000 in
set_option maxHeartbeats 4000000 in
theorem refRedo_any (S : ByteArray) (A : Option Addr) (n c B k v : Nat) (E : List Ed) (x : Ed) (w : World) (hl : Reads w B 3 A n (eds E)) (hB : B ≤ w.heap.size) (hk : k < n) (hn : n ≤ 1000) (hx : E[k]? = some x) (hv : v ≤ 1000000) :
    Calls Try.prog 24 #[.agg #[.string S, .slice A n c, .int .i64 k, .int .i64 v]] w
      fun e w' => e = .returned (.tuple #[.agg #[.string S, .slice A n c, .int .i64 ((k : Int) + 1), .int .i64 ((v : Int) + 1)], .agg #[.int .i64 x.pos, .int .i64 x.del, .string x.ins], .int .i64 0]) ∧ Below w.heap.size w w' := by
  have hsl : ∃ A' n' c', Value.slice A n c = .slice A' n' c' := ⟨_, _, _, rfl⟩
  have t1 : ((k : Int) == (n : Int)) = false := by rw [beq_eq_false_iff_ne]; omega
  have t2 : (k == n) = false := by rw [beq_eq_false_iff_ne]; omega
  obtain ⟨b, off, x', rfl, hbl, hx', h0, h1, h2⟩ := hl.ed_at hk
  have hxx := hx'.symm.trans hx
  injection hxx with hxx
  subst hxx
  obtain ⟨xp, xd, xi⟩ := x'
  simp only at h0 h1 h2
  have hbw : b < w.heap.size := by omega
  have ki0 : (0 : Int) ≤ (k : Int) := by omega
  have ki1 : (k : Int) < (n : Int) := by omega
  have b0 : Below w.heap.size w (((w.alloc (.cells #[.string S, .slice (some ⟨b, off, none⟩) n c, .int .i64 k, .int .i64 v] 29)).alloc (.cells #[.string ⟨#[]⟩, .slice none 0 0, .int .i64 0, .int .i64 0] 29)).alloc (.cells #[.int .i64 0, .int .i64 0, .string ⟨#[]⟩] 31)) := (((Below.refl _ _).alloc (Nat.le_refl _) _).alloc (by simp) _).alloc (by simp; omega) _
  have h0 := (b0.cell (p := ⟨b, off + k * 3, none⟩) hbw).trans h0
  have h1 := (b0.cell (p := ⟨b, off + k * 3 + 1, none⟩) hbw).trans h1
  have h2 := (b0.cell (p := ⟨b, off + k * 3 + 2, none⟩) hbw).trans h2
  clear hl hx hx' b0
  go_enter Try.func24, Try.ntmps24
  go_wp2_with fail
  have K1 := (((Blk.new' w 29 #[.string S, .slice (some ⟨b, off, none⟩) n c, .int .i64 ((k : Int) + 1), .int .i64 ((v : Int) + 1)] rfl).alloc (.cells #[.string ⟨#[]⟩, .slice none 0 0, .int .i64 0, .int .i64 0] 29)).alloc (.cells #[.int .i64 0, .int .i64 0, .string ⟨#[]⟩] 31)).alloc (.cells #[.int .i64 xp, .int .i64 xd, .string xi] 31)
  have R3 := ((Blk.new' (g := w.heap.size + 1) (w.alloc (.cells #[.string S, .slice (some ⟨b, off, none⟩) n c, .int .i64 ((k : Int) + 1), .int .i64 ((v : Int) + 1)] 29)) 29 #[.string ⟨#[]⟩, .slice none 0 0, .int .i64 0, .int .i64 0] (by simp)).alloc (.cells #[.int .i64 0, .int .i64 0, .string ⟨#[]⟩] 31)).alloc (.cells #[.int .i64 xp, .int .i64 xd, .string xi] 31)
  have R4 := (Blk.new' (g := w.heap.size + 1 + 1) ((w.alloc (.cells #[.string S, .slice (some ⟨b, off, none⟩) n c, .int .i64 ((k : Int) + 1), .int .i64 ((v : Int) + 1)] 29)).alloc (.cells #[.string ⟨#[]⟩, .slice none 0 0, .int .i64 0, .int .i64 0] 29)) 31 #[.int .i64 0, .int .i64 0, .string ⟨#[]⟩] (by simp)).alloc (.cells #[.int .i64 xp, .int .i64 xd, .string xi] 31)
  have Q1 := Blk.new' (g := w.heap.size + 1 + 1 + 1) (((w.alloc (.cells #[.string S, .slice (some ⟨b, off, none⟩) n c, .int .i64 ((k : Int) + 1), .int .i64 ((v : Int) + 1)] 29)).alloc (.cells #[.string ⟨#[]⟩, .slice none 0 0, .int .i64 0, .int .i64 0] 29)).alloc (.cells #[.int .i64 0, .int .i64 0, .string ⟨#[]⟩] 31)) 31 #[.int .i64 xp, .int .i64 xd, .string xi] (by simp)
  have hbb : Below w.heap.size w ((((w.alloc (.cells #[.string S, .slice (some ⟨b, off, none⟩) n c, .int .i64 ((k : Int) + 1), .int .i64 ((v : Int) + 1)] 29)).alloc (.cells #[.string ⟨#[]⟩, .slice none 0 0, .int .i64 0, .int .i64 0] 29)).alloc (.cells #[.int .i64 0, .int .i64 0, .string ⟨#[]⟩] 31)).alloc (.cells #[.int .i64 xp, .int .i64 xd, .string xi] 31)) := ((((Below.refl _ _).alloc (Nat.le_refl _) _).alloc (by simp) _).alloc (by simp; omega) _).alloc (by simp; omega) _
  generalize (((w.alloc (.cells #[.string S, .slice (some ⟨b, off, none⟩) n c, .int .i64 ((k : Int) + 1), .int .i64 ((v : Int) + 1)] 29)).alloc (.cells #[.string ⟨#[]⟩, .slice none 0 0, .int .i64 0, .int .i64 0] 29)).alloc (.cells #[.int .i64 0, .int .i64 0, .string ⟨#[]⟩] 31)).alloc (.cells #[.int .i64 xp, .int .i64 xd, .string xi] 31) = W3 at *
  clear h0 h1 h2
  obtain ⟨x0, x1, x2, x3, _, _, _, _⟩ := blk4 K1
  obtain ⟨q0, q1, q2, _, _, _⟩ := blk3 Q1
  obtain ⟨r0, r1, r2, r3, f0, f1, f2, f3⟩ := blk4 R3
  obtain ⟨s0, s1, s2, g0, g1, g2⟩ := blk3 R4
  go_region
  all_goals
    obtain ⟨F1, F2, F3⟩ := end7 R3 R4 (by omega) hbb (by omega) (by omega) S (.slice (some ⟨b, off, none⟩) n c) (.int .i64 ((k : Int) + 1)) (.int .i64 ((v : Int) + 1)) (.int .i64 xp) (.int .i64 xd) (.string xi)
    go_wp2_with fail
    exact bodyPost_ret (results_st_ed_int rfl rfl rfl (F1.cell 0) (F1.cell 1) (F1.cell 2) (F1.cell 3) hsl (F2.cell 0) (F2.cell 1) (F2.cell 2) rfl) rfl ⟨rfl, F3⟩
end Go.Proofs.Ytepohmklbfkdfaa
