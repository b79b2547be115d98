/- The example's automaton: runs of letters, single blanks. -/
import Derived.Test.YthpdfgfefmoaaaaRelClasses
import Derived.Test.YthpdfgfefmoaaaaRDat
import Derived.Test.YthpdfgfefmoaaaaRelTools
namespace Go.Proofs.Ythpdfgfefmoaaaa
open Go.RowKit

def azS : S4 := ⟨0, 576460743713488896, 0, 0⟩
def spS : S4 := ⟨4294967296, 0, 0, 0⟩
def S4.dat (s : S4) : Int × Int × Int × Int := (s.a, s.b, s.c, s.d)
theorem S4.dat_inj {s t : S4} (h : s.dat = t.dat) : s = t := by
  obtain ⟨a, b, c, d⟩ := s
  obtain ⟨a', b', c', d'⟩ := t
  simp only [S4.dat, Prod.mk.injEq] at h
  obtain ⟨rfl, rfl, rfl, rfl⟩ := h
  rfl
theorem az_eq : rangeS 97 26 = azS := S4.dat_inj (by decide +kernel)
theorem sp_eq : ofS ⟨#[32]⟩ 1 = spS := S4.dat_inj (by decide +kernel)
def wordsCls : List Int := (List.replicate 32 0 ++ [1]) ++ (List.replicate 64 0 ++ (List.replicate 26 2 ++ List.replicate 133 0))
theorem words_cls : (classesL [azS, spS] 256).1 = wordsCls := by decide +kernel
def wordsD : Dfa := ⟨wordsCls, [[-1, 2, 1], [-1, -1, 1], [-1, -1, -1]], [-1, 0, 1]⟩
theorem words_ok : wordsD.Ok 3 := okB_ok (by decide +kernel)

set_option maxHeartbeats 1000000 in
theorem words_any (w : World) : Calls Try.prog 19 #[] w (RetDfa wordsD w) := by
  go_enter Try.func19, Try.ntmps19
  go_wp2_with fail
  refine (range_any 97 122 _ (by omega) (by omega)).mono ?_
  rintro e w1 ⟨rfl, hb1⟩
  simp only [az_eq, azS, Nat.reduceAdd, Nat.reduceSub]
  have K1 := (Blk.new' w 25 #[.slice none 0 0, .slice none 0 0, .slice none 0 0] rfl).below hb1 (by simp)
  have hs1 := hb1.size
  simp only [World.size_alloc] at hs1
  go_wp2_with fail
  refine (of_any ⟨#[32]⟩ w1 (by decide)).mono ?_
  rintro e w2 ⟨rfl, hb2⟩
  have e1 : (⟨#[32]⟩ : ByteArray).size = 1 := rfl
  simp only [e1, sp_eq, spS]
  have K2 := K1.below hb2 K1.lt
  have hs2 := hb2.size
  clear e1
  go_wp2_with fail
  have R3 : Reads (w2.alloc (.cells #[.int .u64 0, .int .u64 576460743713488896, .int .u64 0, .int .u64 0, .int .u64 4294967296, .int .u64 0, .int .u64 0, .int .u64 0] 62)) (w2.heap.size + 1) 4 (some ⟨w2.heap.size, 0, none⟩) 2 (sets [azS, spS]) :=
    Reads.of_blk (Blk.new' _ _ _ rfl) (by omega) rfl rfl
  refine (classes_any _ 2 2 (w2.heap.size + 1) [azS, spS] _ R3 (by simp) (by omega)).mono ?_
  rw [words_cls]
  rintro e w4 ⟨rfl, ⟨cs, KC, hcs⟩, hb4⟩
  simp only [World.size_alloc] at KC hb4
  have K4 := (K2.alloc (.cells #[.int .u64 0, .int .u64 576460743713488896, .int .u64 0, .int .u64 0, .int .u64 4294967296, .int .u64 0, .int .u64 0, .int .u64 0] 62)).below hb4 (by have := K2.lt; omega)
  have hs4 := hb4.size
  have hbw : Below w.heap.size w w4 := (((((Below.refl _ _).alloc (Nat.le_refl _) _).trans (hb1.mono (by simp))).trans (hb2.mono (by omega))).alloc (by omega) _).trans (hb4.mono (by omega))
  have HCS := Lib.hid hcs
  clear R3 hcs
  have K5 := ((((K4.alloc (.cells #[.int .i64 (-1), .int .i64 2, .int .i64 1] 3)).alloc (.cells #[.int .i64 (-1), .int .i64 (-1), .int .i64 1] 3)).alloc (.cells #[.int .i64 (-1), .int .i64 (-1), .int .i64 (-1)] 3)).alloc (.cells #[.slice (some ⟨w4.heap.size, 0, none⟩) 3 3, .slice (some ⟨w4.heap.size + 1, 0, none⟩) 3 3, .slice (some ⟨w4.heap.size + 1 + 1, 0, none⟩) 3 3] 22)).alloc (.cells #[.int .i64 (-1), .int .i64 0, .int .i64 1] 3)
  have k0 := K5.cell 0
  have k1 := K5.cell 1
  have k2 := K5.cell 2
  have f0 := K5.frozen 0
  have f1 := K5.frozen 1
  have f2 := K5.frozen 2
  simp at k0 k1 k2
  go_wp2_with fail
  have hwl := K4.lt
  have hkc := KC.lt
  obtain ⟨M, hM⟩ : ∃ M, M = w4.heap.size := ⟨_, rfl⟩
  obtain ⟨C, hC⟩ : ∃ C, C = w2.heap.size + 1 := ⟨_, rfl⟩
  rw [← hM] at hwl hkc K5 ⊢
  rw [← hC] at hkc KC ⊢
  obtain ⟨W, hW⟩ : ∃ W, W = ((((w4.alloc (.cells #[.int .i64 (-1), .int .i64 2, .int .i64 1] 3)).alloc (.cells #[.int .i64 (-1), .int .i64 (-1), .int .i64 1] 3)).alloc (.cells #[.int .i64 (-1), .int .i64 (-1), .int .i64 (-1)] 3)).alloc (.cells #[.slice (some ⟨M, 0, none⟩) 3 3, .slice (some ⟨M + 1, 0, none⟩) 3 3, .slice (some ⟨M + 1 + 1, 0, none⟩) 3 3] 22)).alloc (.cells #[.int .i64 (-1), .int .i64 0, .int .i64 1] 3) := ⟨_, rfl⟩
  have b0 : Blk W M 3 #[.int .i64 (-1), .int .i64 2, .int .i64 1] := by rw [hW]; exact ((((Blk.new' _ _ _ hM.symm).alloc _).alloc _).alloc _).alloc _
  have b1 : Blk W (M + 1) 3 #[.int .i64 (-1), .int .i64 (-1), .int .i64 1] := by rw [hW]; exact (((Blk.new' _ _ _ (by simp [hM])).alloc _).alloc _).alloc _
  have b2 : Blk W (M + 1 + 1) 3 #[.int .i64 (-1), .int .i64 (-1), .int .i64 (-1)] := by rw [hW]; exact ((Blk.new' _ _ _ (by simp [hM])).alloc _).alloc _
  have b3 : Blk W (M + 1 + 1 + 1) 22 #[.slice (some ⟨M, 0, none⟩) 3 3, .slice (some ⟨M + 1, 0, none⟩) 3 3, .slice (some ⟨M + 1 + 1, 0, none⟩) 3 3] := by rw [hW]; exact (Blk.new' _ _ _ (by simp [hM])).alloc _
  have b4 : Blk W (M + 1 + 1 + 1 + 1) 3 #[.int .i64 (-1), .int .i64 0, .int .i64 1] := by rw [hW]; exact Blk.new' _ _ _ (by simp [hM])
  have bc : Blk W C 3 cs := by rw [hW]; exact ((((KC.alloc _).alloc _).alloc _).alloc _).alloc _
  have hWs : W.heap.size = M + 1 + 1 + 1 + 1 + 1 := by rw [hW]; simp [hM]
  have hbW : Below w.heap.size w W := by
    rw [hW]
    exact ((((hbw.alloc (by omega) _).alloc (by simp; omega) _).alloc (by simp; omega) _).alloc (by simp; omega) _).alloc (by simp; omega) _
  rw [← hW] at K5 ⊢
  clear hW k0 k1 k2 f0 f1 f2
  have hCw : w.heap.size < C := by rw [hC]; omega
  have K9 := K5.set3 (.slice (some ⟨C, 0, none⟩) 256 256) (.slice (some ⟨M + 1 + 1 + 1, 0, none⟩) 3 3) (.slice (some ⟨M + 1 + 1 + 1 + 1, 0, none⟩) 3 3)
  have far3 : ∀ {g : Nat} {t : TypeId} {cs : Array Value}, Blk W g t cs → w.heap.size < g → Blk (((W.setCell ⟨w.heap.size, 0, none⟩ (.slice (some ⟨C, 0, none⟩) 256 256)).setCell ⟨w.heap.size, 1, none⟩ (.slice (some ⟨M + 1 + 1 + 1, 0, none⟩) 3 3)).setCell ⟨w.heap.size, 2, none⟩ (.slice (some ⟨M + 1 + 1 + 1 + 1, 0, none⟩) 3 3)) g t cs :=
    fun h hg => ((h.far (by simp; omega) _).far (by simp; omega) _).far (by simp; omega) _
  have d0 := far3 b0 (by omega)
  have d1 := far3 b1 (by omega)
  have d2 := far3 b2 (by omega)
  have d3 := far3 b3 (by omega)
  have d4 := far3 b4 (by omega)
  have dc := far3 bc hCw
  have hbZ : Below w.heap.size w (((W.setCell ⟨w.heap.size, 0, none⟩ (.slice (some ⟨C, 0, none⟩) 256 256)).setCell ⟨w.heap.size, 1, none⟩ (.slice (some ⟨M + 1 + 1 + 1, 0, none⟩) 3 3)).setCell ⟨w.heap.size, 2, none⟩ (.slice (some ⟨M + 1 + 1 + 1 + 1, 0, none⟩) 3 3)) := ((hbW.setCell (by simp) _).setCell (by simp) _).setCell (by simp) _
  have hZs : (((W.setCell ⟨w.heap.size, 0, none⟩ (.slice (some ⟨C, 0, none⟩) 256 256)).setCell ⟨w.heap.size, 1, none⟩ (.slice (some ⟨M + 1 + 1 + 1, 0, none⟩) 3 3)).setCell ⟨w.heap.size, 2, none⟩ (.slice (some ⟨M + 1 + 1 + 1 + 1, 0, none⟩) 3 3)).heap.size = M + 1 + 1 + 1 + 1 + 1 := by simp [hWs]
  obtain ⟨Z, hZ⟩ : ∃ Z, ((W.setCell ⟨w.heap.size, 0, none⟩ (.slice (some ⟨C, 0, none⟩) 256 256)).setCell ⟨w.heap.size, 1, none⟩ (.slice (some ⟨M + 1 + 1 + 1, 0, none⟩) 3 3)).setCell ⟨w.heap.size, 2, none⟩ (.slice (some ⟨M + 1 + 1 + 1 + 1, 0, none⟩) 3 3) = Z := ⟨_, rfl⟩
  rw [hZ] at K9 d0 d1 d2 d3 d4 dc hbZ hZs ⊢
  clear hZ far3
  refine bodyPost_ret (results_dfa rfl rfl (K9.cell 0) (K9.cell 1) (K9.cell 2)) rfl ⟨⟨some ⟨C, 0, none⟩, 256, 256, some ⟨M + 1 + 1 + 1, 0, none⟩, 3, 3, some ⟨M + 1 + 1 + 1 + 1, 0, none⟩, 3, 3⟩, rfl, ?_, hbZ⟩
  rw [hZs]
  refine ⟨Reads.of_blk dc (by omega) HCS.out ?_, Reads.of_blk d4 (by omega) rfl rfl, ⟨_, Reads.of_blk d3 (by omega) rfl rfl, rfl, ?_⟩, by simp [maxLen], by simp [maxLen], by simp [maxLen]⟩
  · have : wordsCls.length = 256 := by decide +kernel
    simp [ints]; exact this
  · intro i r hr
    match i, hr with
    | 0, hr => simp [wordsD] at hr; subst hr; exact ⟨_, 3, 3, rfl, Reads.of_blk d0 (by omega) rfl rfl, by simp [maxLen]⟩
    | 1, hr => simp [wordsD] at hr; subst hr; exact ⟨_, 3, 3, rfl, Reads.of_blk d1 (by omega) rfl rfl, by simp [maxLen]⟩
    | 2, hr => simp [wordsD] at hr; subst hr; exact ⟨_, 3, 3, rfl, Reads.of_blk d2 (by omega) rfl rfl, by simp [maxLen]⟩
    | n + 3, hr => simp [wordsD] at hr
end Go.Proofs.Ythpdfgfefmoaaaa
