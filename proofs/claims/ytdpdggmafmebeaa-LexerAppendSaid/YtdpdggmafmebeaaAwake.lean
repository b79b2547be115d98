/- light; the example automaton; awake returns true. -/
import Derived.Test.YtdpdggmafmebeaaValid
import Derived.Test.YtdpdggmafmebeaaSame
namespace Go.Proofs.Ytdpdggmafmebeaa
open Go.RowKit

set_option maxHeartbeats 1000000 in
theorem light_any (v : DfaV) (d : Dfa) (B : Nat) (s : ByteArray) (w : World) (hd : DfaAt w B v d) (hB : B ≤ w.heap.size) (hs : s.size ≤ maxLen) :
    Calls Try.prog 11 #[.agg #[.slice v.Ac v.nc v.cc, .slice v.An v.nn v.cn, .slice v.Aa v.na v.ca], .string s] w (RetIf ((∃ k, d.Ok k) ∧ v.nn ≤ 60 ∧ s.size ≤ 60) w) := by
  have HD := Lib.hid (hd.more hB)
  have hbn := hd.bn
  clear hd
  obtain ⟨Ac, nc, cc, An, nn, cn, Aa, na, ca⟩ := v
  simp only [maxLen] at *
  by_cases h1 : nn ≤ 60
  · by_cases h2 : s.size ≤ 60
    · have h1' : decide ((nn : Int) ≤ 60) = true := by simp; omega
      have h2' : decide ((s.size : Int) ≤ 60) = true := by simp; omega
      go_enter Try.func11, Try.ntmps11
      go_wp2_with (go_at_call 21; refine (valid_any ⟨Ac, nc, cc, An, nn, cn, Aa, na, ca⟩ d w.heap.size _ (HD.out.alloc (Nat.le_refl _) _) (by simp)).mono ?_; rintro e w1 ⟨b, rfl, hb, hb1⟩)
      go_ret
      exact ⟨b, rfl, fun h => ⟨hb h, h1, h2⟩, ((Below.refl _ _).alloc (Nat.le_refl _) _).trans (hb1.mono (by simp))⟩
    · have h1' : decide ((nn : Int) ≤ 60) = true := by simp; omega
      have h2' : decide ((s.size : Int) ≤ 60) = false := by simp; omega
      go_enter Try.func11, Try.ntmps11
      go_wp2_with fail
      go_ret
      exact ⟨false, rfl, by simp, (Below.refl _ _).alloc (Nat.le_refl _) _⟩
  · have h1' : decide ((nn : Int) ≤ 60) = false := by simp; omega
    go_enter Try.func11, Try.ntmps11
    go_wp2_with fail
    go_ret
    exact ⟨false, rfl, by simp, (Below.refl _ _).alloc (Nat.le_refl _) _⟩

/-- The example's automaton. -/
def exCls : List Int := ((List.replicate 256 (0 : Int)).set 97 1).set 98 2
def exDfa : Dfa := ⟨exCls, [[-1, 1, -1], [-1, 2, 3], [-1, 2, -1], [-1, -1, -1]], [-1, 0, 0, 1]⟩
def zeros256 : Array Value := Array.replicate 256 (.int .i64 0)
theorem infoInt : (Try.prog.info? 3).map (fun i => (i.zero, i.size, i.bytes)) = some (some (.int .i64 0), 1, 8) := by kernel_rfl
theorem run_make256 (w : World) : (Instr.makeSlice 22 (.int .i64 256) (.int .i64 256)).run Try.prog w = .ok (.slice (some ⟨w.heap.size, 0, none⟩) 256 256) (w.alloc (.cells zeros256 3)) := by
  obtain ⟨i0, hi0, hz0, hz1, hz2⟩ := info_parts infoInt
  have h := run_make (P := Try.prog) w 22 3 i0 (.int .i64 0) Try.underlying22 hi0 hz0 .i64 .i64 256 256 (by omega) (by omega) (by rw [hz2]; omega) (by omega)
  have hm : madeCells (Value.int .i64 0).cells (Int.toNat 256 * i0.size) = zeros256 := by
    rw [hz1]
    apply Array.toList_inj.1
    show (madeCells #[.int .i64 0] 256).toList = _
    rw [toList_madeCells_one]
    unfold zeros256
    simp
  rw [hm] at h
  exact h

def RetDfa (d : Dfa) (w : World) (e : Ending) (w' : World) : Prop :=
  ∃ v : DfaV, e = .returned (.agg #[.slice v.Ac v.nc v.cc, .slice v.An v.nn v.cn, .slice v.Aa v.na v.ca]) ∧ DfaAt w' w'.heap.size v d ∧ Below w.heap.size w w'

theorem exCls_cells : ((zeros256.setIfInBounds 97 (.int .i64 1)).setIfInBounds 98 (.int .i64 2)).toList = ints exCls := by
  unfold zeros256 ints exCls
  rw [Array.toList_setIfInBounds, Array.toList_setIfInBounds, Array.toList_replicate, List.map_set, List.map_set, List.map_replicate]
theorem exCls_length : (ints exCls).length = 256 * 1 := by
  unfold ints exCls
  rw [List.length_map, List.length_set, List.length_set, List.length_replicate]
theorem zeros256_at (i : Nat) (h : i < 256) : zeros256[i]? = some (.int .i64 0) := by unfold zeros256; simp [h]

set_option maxHeartbeats 1000000 in
theorem example_any (w : World) : Calls Try.prog 20 #[] w (RetDfa exDfa w) := by
  have hmk := run_make256
  have z97 := zeros256_at 97 (by omega)
  have z98 := zeros256_at 98 (by omega)
  go_enter Try.func20, Try.ntmps20
  go_wp2_with fail
  clear hmk z97 z98
  generalize hN : w.heap.size = N
  generalize hW : World.alloc _ _ = W
  have hs : W.heap.size = N + 1 + 1 + 1 + 1 + 1 + 1 + 1 + 1 + 1 := by rw [← hW, ← hN]; simp
  have hb : Below w.heap.size w W := by
    rw [← hW]
    exact ((((((((((Below.refl _ _).alloc (Nat.le_refl _) _).alloc (by simp) _).alloc (by simp; omega) _).alloc (by simp; omega) _).alloc (by simp; omega) _).alloc (by simp; omega) _).alloc (by simp; omega) _).alloc (by simp; omega) _).alloc (by simp; omega) _)
  have b0 : Blk W N 25 #[.slice (some ⟨N + 1, 0, none⟩) 256 256, .slice (some ⟨N + 1 + 1 + 1 + 1 + 1 + 1, 0, none⟩) 4 4, .slice (some ⟨N + 1 + 1 + 1 + 1 + 1 + 1 + 1, 0, none⟩) 4 4] := by
    rw [← hW]; exact ((((((((Blk.new' _ _ _ (by simp [hN])).alloc _).alloc _).alloc _).alloc _).alloc _).alloc _).alloc _).alloc _
  have b1 : Blk W (N + 1) 3 ((zeros256.setIfInBounds 97 (.int .i64 1)).setIfInBounds 98 (.int .i64 2)) := by
    rw [← hW]; exact (((((((Blk.new' _ _ _ (by simp [hN])).alloc _).alloc _).alloc _).alloc _).alloc _).alloc _).alloc _
  have b2 : Blk W (N + 1 + 1) 3 #[.int .i64 (-1), .int .i64 1, .int .i64 (-1)] := by
    rw [← hW]; exact ((((((Blk.new' _ _ _ (by simp [hN])).alloc _).alloc _).alloc _).alloc _).alloc _).alloc _
  have b3 : Blk W (N + 1 + 1 + 1) 3 #[.int .i64 (-1), .int .i64 2, .int .i64 3] := by
    rw [← hW]; exact (((((Blk.new' _ _ _ (by simp [hN])).alloc _).alloc _).alloc _).alloc _).alloc _
  have b4 : Blk W (N + 1 + 1 + 1 + 1) 3 #[.int .i64 (-1), .int .i64 2, .int .i64 (-1)] := by
    rw [← hW]; exact ((((Blk.new' _ _ _ (by simp [hN])).alloc _).alloc _).alloc _).alloc _
  have b5 : Blk W (N + 1 + 1 + 1 + 1 + 1) 3 #[.int .i64 (-1), .int .i64 (-1), .int .i64 (-1)] := by
    rw [← hW]; exact (((Blk.new' _ _ _ (by simp [hN])).alloc _).alloc _).alloc _
  have b6 : Blk W (N + 1 + 1 + 1 + 1 + 1 + 1) 22 #[.slice (some ⟨N + 1 + 1, 0, none⟩) 3 3, .slice (some ⟨N + 1 + 1 + 1, 0, none⟩) 3 3, .slice (some ⟨N + 1 + 1 + 1 + 1, 0, none⟩) 3 3, .slice (some ⟨N + 1 + 1 + 1 + 1 + 1, 0, none⟩) 3 3] := by
    rw [← hW]; exact ((Blk.new' _ _ _ (by simp [hN])).alloc _).alloc _
  have b7 : Blk W (N + 1 + 1 + 1 + 1 + 1 + 1 + 1) 3 #[.int .i64 (-1), .int .i64 0, .int .i64 0, .int .i64 1] := by
    rw [← hW]; exact (Blk.new' _ _ _ (by simp [hN])).alloc _
  clear hW
  refine bodyPost_ret (results_dfa rfl rfl (b0.cell 0) (b0.cell 1) (b0.cell 2)) rfl ⟨⟨some ⟨N + 1, 0, none⟩, 256, 256, some ⟨N + 1 + 1 + 1 + 1 + 1 + 1, 0, none⟩, 4, 4, some ⟨N + 1 + 1 + 1 + 1 + 1 + 1 + 1, 0, none⟩, 4, 4⟩, rfl, ?_, hb⟩
  refine ⟨Reads.of_blk b1 (by omega) ?_ ?_, Reads.of_blk b7 (by omega) rfl rfl, ⟨_, Reads.of_blk b6 (by omega) rfl rfl, rfl, ?_⟩, by simp [maxLen], by simp [maxLen], by simp [maxLen]⟩
  · exact exCls_cells
  · exact exCls_length
  · intro i r hr
    match i, hr with
    | 0, hr => simp [exDfa] at hr; subst hr; exact ⟨_, 3, 3, rfl, Reads.of_blk b2 (by omega) rfl rfl, by simp [maxLen]⟩
    | 1, hr => simp [exDfa] at hr; subst hr; exact ⟨_, 3, 3, rfl, Reads.of_blk b3 (by omega) rfl rfl, by simp [maxLen]⟩
    | 2, hr => simp [exDfa] at hr; subst hr; exact ⟨_, 3, 3, rfl, Reads.of_blk b4 (by omega) rfl rfl, by simp [maxLen]⟩
    | 3, hr => simp [exDfa] at hr; subst hr; exact ⟨_, 3, 3, rfl, Reads.of_blk b5 (by omega) rfl rfl, by simp [maxLen]⟩
    | n + 4, hr => simp [exDfa] at hr

def okB (d : Dfa) (k : Nat) : Bool := d.cls.length == 256 && (d.cls.all (fun x => decide (0 ≤ x ∧ x < k)) && (d.acc.length == d.next.length && (decide (0 < d.next.length) &&
  (d.next.all (fun r => r.length == k && r.all (fun x => decide (-1 ≤ x ∧ x < d.next.length))) && d.acc.all (fun x => decide (-1 ≤ x))))))
theorem okB_ok {d : Dfa} {k : Nat} (h : okB d k = true) : d.Ok k := by
  simp only [okB, Bool.and_eq_true, beq_iff_eq, List.all_eq_true, decide_eq_true_eq] at h
  obtain ⟨h1, h2, h3, h4, h5, h6⟩ := h
  refine ⟨h1, fun i x hx => h2 x (List.mem_of_getElem? hx), h3, h4, fun i r hr => ?_, fun i x hx => h6 x (List.mem_of_getElem? hx)⟩
  obtain ⟨g1, g2⟩ := h5 r (List.mem_of_getElem? hr)
  exact ⟨g1, fun j x hx => g2 x (List.mem_of_getElem? hx)⟩
theorem exDfa_ok : exDfa.Ok 3 := okB_ok (by decide +kernel)

def Tok.dat (t : Tok) : Int × Int × List UInt8 × Int := (t.kind, t.pos, t.text.data.toList, t.look)
theorem Tok.dat_inj {a b : Tok} (h : a.dat = b.dat) : a = b := by
  obtain ⟨k, p, ⟨⟨t⟩⟩, l⟩ := a
  obtain ⟨k', p', ⟨⟨t'⟩⟩, l'⟩ := b
  simp only [Tok.dat, Prod.mk.injEq] at h
  obtain ⟨rfl, rfl, h, rfl⟩ := h
  have : t = t' := h
  subst this
  rfl
theorem toks_of_dat : ∀ {l m : List Tok}, l.map Tok.dat = m.map Tok.dat → l = m
  | [], [], _ => rfl
  | [], _ :: _, h => by simp at h
  | _ :: _, [], h => by simp at h
  | a :: l, b :: m, h => by
    simp only [List.map_cons, List.cons.injEq] at h
    rw [Tok.dat_inj h.1, toks_of_dat h.2]

def exS1 : ByteArray := ⟨#[97, 97, 97, 98, 120]⟩
def exS2 : ByteArray := ⟨#[97, 98]⟩
def exL1 : List Tok := [⟨0, 0, ⟨#[97, 97, 97]⟩, 4⟩, ⟨-1, 3, ⟨#[98]⟩, 1⟩, ⟨-1, 4, ⟨#[120]⟩, 1⟩]
def exL2 : List Tok := [⟨1, 0, ⟨#[97, 98]⟩, 3⟩]
theorem exL1_eq : lexL exDfa exS1 = exL1 := toks_of_dat (by decide +kernel)
theorem exL2_eq : lexL exDfa exS2 = exL2 := toks_of_dat (by decide +kernel)
theorem exS1_list : (exS1.toList == [97, 97, 97, 98, 120]) = true := by rw [ByteArray.toList_eq]; decide
theorem exT1 : textL exL1 = exS1 := by
  have h : (textL exL1).data.toList = exS1.data.toList := by decide +kernel
  exact ByteArray.ext (Array.toList_inj.1 h)

set_option maxHeartbeats 1000000 in
theorem awake_any (w : World) : Calls Try.prog 10 #[] w fun e w' => e = .returned (.bool true) ∧ Below w.heap.size w w' := by
  go_enter Try.func10, Try.ntmps10
  go_wp2_with fail
  refine (example_any _).mono ?_
  rintro e w1 ⟨v1, rfl, d1, hb1⟩
  go_wp2_with fail
  refine (lex_any v1 exDfa 3 _ exS1 _ d1 (Nat.le_refl _) exDfa_ok (by decide)).mono ?_
  rw [exL1_eq]
  rintro e w2 ⟨A1, c1, rfl, _, _, r1, hb2⟩
  go_wp2_with fail
  refine (example_any _).mono ?_
  rintro e w3 ⟨v2, rfl, d2, hb3⟩
  go_wp2_with fail
  refine (lex_any v2 exDfa 3 _ exS2 _ d2 (Nat.le_refl _) exDfa_ok (by decide)).mono ?_
  rw [exL2_eq]
  rintro e w4 ⟨A2, c2, rfl, _, _, r2, hb4⟩
  go_wp2_with fail
  have k1 : sameT exL1 exL1 = true := sameT_iff.2 rfl
  have k2 : sameT exL2 exL2 = true := sameT_iff.2 rfl
  have r1' := ((r1.below hb3).below (hb4.mono hb3.size)).alloc (B := w2.heap.size) (by have := hb3.size; have := hb4.size; omega) (.cells (toks exL1).toArray 32)
  refine (same_any A1 (some ⟨w4.heap.size, 0, none⟩) exL1.length 3 c1 3 _ (w4.heap.size + 1) exL1 exL1 _ r1' (Reads.of_blk (Blk.new' w4 32 (toks exL1).toArray rfl) (by omega) rfl rfl) (by simp [maxLen, exL1]) (by simp [maxLen])).mono ?_
  rintro e w5 ⟨rfl, n5, rfl⟩
  rw [k1]
  go_wp2_with fail
  have r2' := ((r2.alloc (Nat.le_refl _) (.cells (toks exL1).toArray 32)).drewN n5).alloc (B := w4.heap.size) (by simp) (.cells (toks exL2).toArray 32)
  refine (same_any A2 (some ⟨w4.heap.size + 1, 0, none⟩) exL2.length 1 c2 1 _ (w4.heap.size + 2) exL2 exL2 _ r2' (Reads.of_blk (Blk.new' _ 32 (toks exL2).toArray (by simp)) (by omega) rfl rfl) (by simp [maxLen, exL2]) (by simp [maxLen])).mono ?_
  rintro e w6 ⟨rfl, n6, rfl⟩
  rw [k2]
  go_wp2_with fail
  have t1 := exT1
  have hs4 : w2.heap.size ≤ w4.heap.size := by have := hb3.size; have := hb4.size; omega
  have r1'' := ((r1'.drewN n5).alloc (by simp; omega) (.cells (toks exL2).toArray 32)).drewN n6
  refine (text_any A1 exL1.length c1 w2.heap.size exL1 _ r1'' (by simp; omega) (by simp [maxLen, exL1]) (by rw [t1]; decide)).mono ?_
  rintro e w7 ⟨rfl, hb7⟩
  rw [t1]
  go_wp2_with fail
  go_ret
  have hb : Below w.heap.size w w4 := (((hb1.trans (hb2.mono hb1.size)).trans (hb3.mono (by have := hb1.size; have := hb2.size; omega))).trans (hb4.mono (by have := hb1.size; have := hb2.size; have := hb3.size; omega)))
  have hs := hb.size
  refine ⟨ret_bool exS1_list, ?_⟩
  exact (below_drewN ((below_drewN (hb.alloc hs _) _).alloc (by simp; omega) _) _).trans (hb7.mono (by simp; omega))
end Go.Proofs.Ytdpdggmafmebeaa
