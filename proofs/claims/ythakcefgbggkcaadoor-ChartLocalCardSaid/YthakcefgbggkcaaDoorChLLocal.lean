/- The law of the part: the cells of the spans between two states are those of the chart of the part of the lattice. -/
import Derived.Test.YthakcefgbggkcaaDoorChPair
import Derived.Test.YthakcefgbggkcaaDoorChLocA
import Derived.Deep.DeepCutAuto
import Derived.BigQuiet
namespace Go.Proofs.YthakcefgbggkcaaDoor
open Go.RowKit


theorem infoInt : (Tryd.prog.info? 3).map (fun i => (i.zero, i.size, i.bytes)) = some (some (.int .i64 0), 1, 8) := by kernel_rfl
theorem own_apart {w : World} {base base' : Nat} {e e' : TypeId} {size size' n n' k : Nat} {v v' : Value} {xs xs' : List Value} (h : w.ownsRow base e size v n xs) (h' : w.ownsRow base' e' size' v' n' xs') (hne : e' ≠ e) (hk : v.ownBlock = some k) : v'.ownBlock ≠ some k := by
  rcases h.2 with ⟨rfl, _⟩ | ⟨g, cap, cur, rfl, _, hg, _⟩
  · simp [Value.ownBlock] at hk
  · have : g = k := by simpa [Value.ownBlock] using hk
    subst this
    exact own_blk_ne h' (cs := cur) hg hne
theorem own_grown {w w' : World} {base : Nat} {e : TypeId} {size n : Nat} {v : Value} {xs : List Value} {row : Option Nat} (h : w.ownsRow base e size v n xs) (hg : w.grownBy w' row) (hne : ∀ k, v.ownBlock = some k → row ≠ some k) : w'.ownsRow base e size v n xs :=
  own_touch (F := fun k => row = some k) h ⟨hg.os, hg.tape, hg.output, hg.size, fun k hk hn => hg.block k hk (fun e => hn e.symm)⟩ hne
theorem own_ge {w : World} {base : Nat} {e : TypeId} {size n k : Nat} {v : Value} {xs : List Value} (h : w.ownsRow base e size v n xs) (hv : v.ownBlock = some k) : base ≤ k := by
  rcases h.2 with ⟨rfl, _⟩ | ⟨g, cap, cur, rfl, hb, _⟩
  · simp [Value.ownBlock] at hv
  · have : g = k := by simpa [Value.ownBlock] using hv
    omega
theorem partK_len (L : List Ar) (f u : Nat) (n : Nat) : (partK L f u n).length ≤ n := by
  unfold partK
  exact Nat.le_trans (List.length_filterMap_le _ _) (by simp)
theorem run_make_ints (n : Nat) (hn : n ≤ 1000000) (w : World) : (Instr.makeSlice 26 (.int .i64 (n : Int)) (.int .i64 (n : Int))).run Tryd.prog w = .ok (.slice (some ⟨w.heap.size, 0, none⟩) n n) (w.alloc (.cells (ints (List.replicate n 0)).toArray 3)) := by
  obtain ⟨i0, hi0, hz0, hz1, hz2⟩ := info_parts infoInt
  have h := run_make (P := Tryd.prog) w 26 3 i0 (.int .i64 0) Tryd.underlying26 hi0 hz0 .i64 .i64 n n (by omega) (by omega) (by rw [hz2]; omega) (by omega)
  have hm : madeCells (Value.int .i64 0).cells (Int.toNat n * i0.size) = (ints (List.replicate n 0)).toArray := by
    rw [hz1]
    apply Array.toList_inj.1
    show (madeCells #[.int .i64 0] _).toList = _
    rw [toList_madeCells_one]
    simp [ints]
  rw [hm, Int.toNat_natCast] at h
  exact h
/-- The part filled: its arcs stored (s1), its final costs made (m) and stored (s2). -/
structure PFill (w0 w : World) (p q : Nat) (v : Value) (Z : Array Value) (m s1 s2 : Bool) (x : Value) : Prop where
  lt : p < w0.heap.size
  tch : Touch (fun k => k = p) w0 w
  mz : m = true → ∃ zg, x = .slice (some ⟨zg, 0, none⟩) q q ∧ w0.heap.size ≤ zg ∧ Blk w zg 3 Z
  blk : Blk w p 28 #[.int .i64 (q : Int), if s1 = true then v else .slice none 0 0, if s2 = true then x else .slice none 0 0]
  i2 : s2 = true → m = true
section
variable {w0 w : World} {p q : Nat} {v : Value} {Z : Array Value} {m s1 s2 : Bool} {x : Value}
theorem PFill.start (h : Blk w0 p 28 #[.int .i64 (q : Int), .slice none 0 0, .slice none 0 0]) (x : Value) : PFill w0 w0.drew p q v Z false false false x :=
  ⟨h.lt, Touch.drewN (Touch.refl _ _) 1, by simp, h, by simp⟩
theorem PFill.make (h : PFill w0 w p q v Z false s1 s2 x) : PFill w0 (w.alloc (.cells Z 3)) p q v Z true s1 s2 (.slice (some ⟨w.heap.size, 0, none⟩) q q) := by
  have hs : s2 = false := by cases hs : s2 with | false => rfl | true => exact absurd (h.i2 hs) (by simp)
  subst hs
  exact ⟨h.lt, h.tch.alloc _, fun _ => ⟨_, rfl, h.tch.size, Blk.new _ _ _⟩, h.blk.alloc _, by simp⟩
theorem PFill.cell1 (h : PFill w0 w p q v Z m false s2 x) : w.cell? ⟨p, 1, none⟩ = some (.slice none 0 0) := by have := h.blk.cell 1; simpa using this
theorem PFill.cell2 (h : PFill w0 w p q v Z m s1 false x) : w.cell? ⟨p, 2, none⟩ = some (.slice none 0 0) := by have := h.blk.cell 2; simpa using this
theorem PFill.put1 (h : PFill w0 w p q v Z m false s2 x) : PFill w0 (w.setCell ⟨p, 1, none⟩ v) p q v Z m true s2 x :=
  ⟨h.lt, h.tch.setCell (p := ⟨p, 1, none⟩) (.inl rfl) _, fun e => let ⟨zg, e1, e2, e3⟩ := h.mz e; ⟨zg, e1, e2, e3.far (p := ⟨p, 1, none⟩) (by have := h.lt; show zg ≠ p; omega) _⟩, by have := h.blk.set_ 1 v; simpa using this, h.i2⟩
theorem PFill.put2 (h : PFill w0 w p q v Z true s1 false x) : PFill w0 (w.setCell ⟨p, 2, none⟩ x) p q v Z true s1 true x :=
  ⟨h.lt, h.tch.setCell (p := ⟨p, 2, none⟩) (.inl rfl) _, fun e => let ⟨zg, e1, e2, e3⟩ := h.mz e; ⟨zg, e1, e2, e3.far (p := ⟨p, 2, none⟩) (by have := h.lt; show zg ≠ p; omega) _⟩, by have := h.blk.set_ 2 x; simpa using this, fun _ => rfl⟩
end
theorem one_of_mem {i : Int} {u : Value} (hu : u ∈ [Value.int .i64 i]) : u.oneCell' = true := by
  rw [List.mem_singleton.1 hu]
  rfl
/-- A cell that a call has handed back. -/
def ClPhi (x : Cl) (c : Array Value) (_ : World) : Prop := c = #[.int .i64 x.v.c, .int .i64 x.v.s, .int .i64 x.r, .int .i64 x.a]
theorem clPhi_lasts {t : TypeId} {z : Array Value} (x : Cl) (_ : Unit) : Lasts t z (ClPhi x) := ⟨fun h _ => h, fun h _ _ => h⟩
/-- The part's rows under way: its arcs, their old places. -/
structure LR (w3 wr : World) (P : List (Ar × Nat)) (q10 q11 : Value) : Prop where
  bl : Below w3.heap.size w3 wr
  oa : wr.ownsRow w3.heap.size 68 5 q10 P.length (ars (P.map (·.1)))
  oo : wr.ownsRow w3.heap.size 3 1 q11 P.length (ints (P.map fun x => (x.2 : Int)))
theorem LR.snoc {w3 wr : World} {P : List (Ar × Nat)} {b : Ar} {k : Nat} {q10 q11 : Value} (bl : Below w3.heap.size w3 wr) (oa : wr.ownsRow w3.heap.size 68 5 q10 (P.length + 1) (ars (P.map (·.1)) ++ b.cells)) (oo : wr.ownsRow w3.heap.size 3 1 q11 (P.length + 1) (ints (P.map fun x => (x.2 : Int)) ++ [.int .i64 (k : Int)])) : LR w3 wr (P ++ [(b, k)]) q10 q11 := by
  refine ⟨bl, ?_, ?_⟩
  · simpa [ars] using oa
  · simpa [ints] using oo
theorem LR.next {w3 wr w' : World} {P : List (Ar × Nat)} {q10 q11 : Value} (h : LR w3 wr P q10 q11) (hb : Below wr.heap.size wr w') : LR w3 w' P q10 q11 :=
  ⟨h.bl.trans (hb.mono h.bl.size), own_below h.oa hb, own_below h.oo hb⟩
set_option maxRecDepth 100000 in
set_option maxHeartbeats 8000000 in
theorem lawLocal_any (w : World) (T N st S : Int) (RA LA FA : Option Addr) (nR rc nL lc nf fc B : Nat) (R : List Rl) (L : List Ar) (fs : List Int) (x y : Nat) (hx : x < 256) (hy : y < 256) (hR : Reads w B 6 RA nR (rls R)) (hL : Reads w B 5 LA nL (ars L)) (hF : Reads w B 1 FA nf (ints fs)) (hB : B ≤ w.heap.size) (hg : NoneAt w) :
    Calls Tryd.prog 10 #[.agg #[.int .i64 T, .int .i64 N, .int .i64 st, .slice RA nR rc], .agg #[.int .i64 S, .slice LA nL lc, .slice FA nf fc], .agg #[.int .u8 (x : Nat), .int .u8 (y : Nat)]] w fun e w' => e = .returned (.bool true) ∧ Below w.heap.size w w' := by
  obtain ⟨W, hW⟩ : ∃ W, ((w.alloc (.cells #[.int .i64 T, .int .i64 N, .int .i64 st, .slice RA nR rc] 24)).alloc (.cells #[.int .i64 S, .slice LA nL lc, .slice FA nf fc] 28)).alloc (.cells #[.int .u8 (x : Nat), .int .u8 (y : Nat)] 56) = W := ⟨_, rfl⟩
  obtain ⟨bn, hbn⟩ : ∃ bn, w.heap.size = bn := ⟨_, rfl⟩
  have K1 : Blk W bn 24 #[.int .i64 T, .int .i64 N, .int .i64 st, .slice RA nR rc] := by rw [← hW]; exact ((Blk.new' _ _ _ hbn).alloc _).alloc _
  have K2 : Blk W (bn + 1) 28 #[.int .i64 S, .slice LA nL lc, .slice FA nf fc] := by rw [← hW]; exact (Blk.new' _ _ _ (by simp; omega)).alloc _
  have K3 : Blk W (bn + 1 + 1) 56 #[.int .u8 (x : Nat), .int .u8 (y : Nat)] := by rw [← hW]; exact Blk.new' _ _ _ (by simp; omega)
  have hBW : Below bn w W := by rw [← hW]; exact (((Below.refl _ _).alloc (by omega) _).alloc (by simp; omega) _).alloc (by simp; omega) _
  have n0 := K1.cell 0
  have n1 := K1.cell 1
  have n2 := K1.cell 2
  have n3 := K1.cell 3
  have l0 := K2.cell 0
  have l1 := K2.cell 1
  have l2 := K2.cell 2
  simp at n0 n1 n2 n3 l0 l1 l2
  have HK1 := Lib.hid K1
  have HK2 := Lib.hid K2
  have HK3 := Lib.hid K3
  have HBW := Lib.hid hBW
  have HW := Lib.hid hW
  have HBN := Lib.hid hbn
  have hnR := hR.len_rls
  have hnL := hL.len_ars
  have HRL := Lib.hid hnR
  have HLL := Lib.hid hnL
  have HR := Lib.hid (hR.more (show B ≤ bn by omega))
  have HL := Lib.hid (hL.more (show B ≤ bn by omega))
  have HF := Lib.hid (hF.more (show B ≤ bn by omega))
  have HG := Lib.hid (hg.below hBW (by rw [← hbn]; exact hg.lt))
  have HG0 : Hid (∀ w9, Below bn w w9 → NoneAt w9) := fun w9 h => hg.below h (by rw [← hbn]; exact hg.lt)
  have HMAY := Lib.hid (may_any W T N st S RA LA FA nR rc nL lc nf fc bn R L fs (HR.out.below hBW) (HL.out.below hBW) (HF.out.below hBW) (by have := hBW.size; omega))
  clear hW hBW K1 K2 K3 hR hL hF hB hnR hnL hg
  go_enter Tryd.func10, Tryd.ntmps10
  go_upto_region 1 with fail
  try rw [hbn]
  rw [HW.out]
  go_wp2_with fail
  refine HMAY.out.mono ?_
  rintro e w1 ⟨b, rfl, hmay, hb1⟩
  have HM := Lib.hid hmay
  have HA1 := Lib.hid (HK1.out.below hb1 HK1.out.lt)
  have HA2 := Lib.hid (HK2.out.below hb1 HK2.out.lt)
  have HA3 := Lib.hid (HK3.out.below hb1 HK3.out.lt)
  have HG1 : Hid (NoneAt w1) := HG.out.next hb1
  have HX1 : Hid (Below bn w w1) := HBW.out.trans (hb1.mono (by have := HBW.out.size; omega))
  clear n0 n1 n2 n3 l0 l1 l2 hb1 hmay HMAY
  cases b with
  | false =>
    have HAW := Lib.hid (awake_any w1 HG1.out)
    go_wp2_with fail
    refine HAW.out.mono ?_
    rintro e w2 ⟨rfl, hb2⟩
    have HX2 : Hid (Below bn w w2) := HX1.out.trans (hb2.mono (by have := HX1.out.size; omega))
    clear hb2
    go_wp2_with fail
    go_ret
    exact ⟨rfl, by rw [HBN.out]; exact HX2.out⟩
  | true =>
    have hok := (by first | exact HM.out rfl | exact HM.out trivial | exact HM.out : MayOk T N st S R L fs)
    obtain ⟨N', rfl⟩ := Int.eq_ofNat_of_zero_le (show 0 ≤ N by have := hok.nm.hN; omega)
    obtain ⟨S', rfl⟩ := Int.eq_ofNat_of_zero_le (show 0 ≤ S by have := hok.la.hS; omega)
    have hN0 : 0 < N' := by have := hok.nm.hN; omega
    have hN1 : N' ≤ 10 := by have := hok.hN; omega
    have hS1 : S' ≤ 9 := by have := hok.hS; omega
    have hrl := hok.nm.rl
    have hla := hok.la.ars
    rw [Int.toNat_natCast] at hrl hla
    have hnR := hok.hR
    have hnL := hok.hL
    rw [HRL.out] at hnR
    rw [HLL.out] at hnL
    have hsz : bn ≤ w1.heap.size := by have := HX1.out.size; omega
    have hS0 : 0 < S' := by have := hok.la.hS; omega
    have hlat := hok.la
    have HLAT := Lib.hid hlat
    clear hlat
    have a1 := HA1.out.cell 0
    have a2 := HA1.out.cell 1
    have a3 := HA1.out.cell 2
    have a4 := HA1.out.cell 3
    have l0 := HA2.out.cell 0
    have a6 := HA2.out.cell 1
    have a7 := HA2.out.cell 2
    have y0 := HA3.out.cell 0
    have y1 := HA3.out.cell 1
    simp at a1 a2 a3 a4 l0 a6 a7 y0 y1
    have HRO := Lib.hid hrl
    have HLO := Lib.hid hla
    have HSB := Lib.hid (And.intro hN0 (And.intro hN1 (And.intro hS1 (And.intro hnR (And.intro hnL hS0)))))
    have HSZ := Lib.hid hsz
    obtain ⟨f, hf⟩ : ∃ f, x % S' = f := ⟨_, rfl⟩
    have hfS : f < S' := by rw [← hf]; exact Nat.mod_lt _ hS0
    obtain ⟨d, hd⟩ : ∃ d, S' - f = d := ⟨_, rfl⟩
    have hd0 : 0 < d := by omega
    obtain ⟨r, hr⟩ : ∃ r, y % d = r := ⟨_, rfl⟩
    have hrd : r < d := by rw [← hr]; exact Nat.mod_lt _ hd0
    obtain ⟨u, hu⟩ : ∃ u, f + r = u := ⟨_, rfl⟩
    obtain ⟨q, hq⟩ : ∃ q, r + 1 = q := ⟨_, rfl⟩
    have huS : u < S' := by omega
    have m1 : (x : Int).tmod (S' : Int) = (f : Int) := by rw [Int.tmod_eq_emod_of_nonneg (by omega), ← hf]; omega
    have m2 : (y : Int).tmod (d : Int) = (r : Int) := by rw [Int.tmod_eq_emod_of_nonneg (by omega), ← hr]; omega
    have m1e : (x : Int) % (S' : Int) = (f : Int) := by rw [← hf]; omega
    have m2e : (y : Int) % (d : Int) = (r : Int) := by rw [← hr]; omega
    have m3 : (S' : Int) - (f : Int) = (d : Int) := by omega
    have HFD : Hid (f + r = u ∧ u < S' ∧ r + 1 = q) := ⟨hu, huS, hq⟩
    have m4 : (u : Int) - (f : Int) = (r : Int) := by omega
    have ux : IntKind.i64.wrap (x : Int) = (x : Int) := IntWalk.i64_in _ (by omega)
    have uy : IntKind.i64.wrap (y : Int) = (y : Int) := IntWalk.i64_in _ (by omega)
    have uf : IntKind.i64.wrap (f : Int) = (f : Int) := IntWalk.i64_in _ (by omega)
    have ur : IntKind.i64.wrap (r : Int) = (r : Int) := IntWalk.i64_in _ (by omega)
    have ud : IntKind.i64.wrap ((S' : Int) - (f : Int)) = (d : Int) := by rw [m3]; exact IntWalk.i64_in _ (by omega)
    have ut : IntKind.i64.wrap ((f : Int) + (r : Int)) = (u : Int) := by rw [show (f : Int) + (r : Int) = (u : Int) by omega]; exact IntWalk.i64_in _ (by omega)
    have uu : IntKind.i64.wrap ((u : Int) - (f : Int)) = (r : Int) := by rw [m4]; exact IntWalk.i64_in _ (by omega)
    have u1 : IntKind.i64.wrap ((r : Int) + 1) = (q : Int) := by rw [show (r : Int) + 1 = (q : Int) by omega]; exact IntWalk.i64_in _ (by omega)
    have HU := Lib.hid (And.intro uu u1)
    have z1 : ((S' : Int) == 0) = false := by simp; omega
    have z2 : ¬ (S' : Int) = 0 := by omega
    have z3 : ¬ S' = 0 := by omega
    have z4 : ((d : Int) == 0) = false := by simp; omega
    have z5 : ¬ (d : Int) = 0 := by omega
    have z6 : ¬ d = 0 := by omega
    clear hok hrl hla HM hf hd hr hu hq m3 m4
    go_upto_region 5 with fail
    clear m1 m2 m1e m2e ux uy uf ur ud ut z1 z2 z3 z4 z5 z6 y0 y1 l0
    go_upto_region 9 with fail
    clear uu u1
    obtain ⟨p, hp⟩ : ∃ p, w1.heap.size = p := ⟨_, rfl⟩
    obtain ⟨w3, hw3⟩ : ∃ w3, w1.alloc (.cells #[.int .i64 (q : Int), .slice none 0 0, .slice none 0 0] 28) = w3 := ⟨_, rfl⟩
    have hb3 : Below w1.heap.size w1 w3 := by rw [← hw3]; exact (Below.refl _ _).alloc (Nat.le_refl _) _
    have HP3 : Hid (Blk w3 p 28 #[.int .i64 (q : Int), .slice none 0 0, .slice none 0 0]) := by rw [← hw3]; exact Blk.new' _ _ _ hp
    have HA13 := Lib.hid (HA1.out.below hb3 HA1.out.lt)
    have HA23 := Lib.hid (HA2.out.below hb3 HA2.out.lt)
    have HX3 : Hid (Below bn w w3) := HX1.out.trans (hb3.mono hsz)
    have HBP : Hid (bn + 1 < p) := by have := HA3.out.lt; show bn + 1 < p; omega
    rw [hw3, hp]
    have HR3 := Lib.hid (HR.out.below HX3.out)
    have HL3 := Lib.hid (HL.out.below HX3.out)
    have HF3 := Lib.hid (HF.out.below HX3.out)
    have HS3 : Hid (bn ≤ w3.heap.size) := by have := HA13.out.lt; show bn ≤ w3.heap.size; omega
    have H5 : Hid (∀ w9, Below w3.heap.size w3 w9 → (w9.cell? ⟨bn, 0, none⟩ = some (.int .i64 T) ∧ w9.cell? ⟨bn, 1, none⟩ = some (.int .i64 N') ∧ w9.cell? ⟨bn, 2, none⟩ = some (.int .i64 st) ∧ w9.cell? ⟨bn, 3, none⟩ = some (.slice RA nR rc)) ∧ (w9.cell? ⟨bn + 1, 0, none⟩ = some (.int .i64 S') ∧ w9.cell? ⟨bn + 1, 1, none⟩ = some (.slice LA nL lc) ∧ w9.cell? ⟨bn + 1, 2, none⟩ = some (.slice FA nf fc))) := fun w9 h => by
      have K := HA13.out.below h HA13.out.lt
      have K' := HA23.out.below h HA23.out.lt
      exact ⟨⟨K.cell 0, K.cell 1, K.cell 2, K.cell 3⟩, K'.cell 0, K'.cell 1, K'.cell 2⟩
    have H0 : Hid (LR w3 w3 (partK L f u 0) (.slice none 0 0) (.slice none 0 0)) := ⟨Below.refl _ _, ⟨rfl, .inl ⟨rfl, rfl⟩⟩, ⟨rfl, .inl ⟨rfl, rfl⟩⟩⟩
    clear hw3 hp hb3 hsz a1 a2 a3 a4 a6 a7
    go_loopw [10, 11, 12] (fun q10 q11 q12 wr => ∃ i : Nat, i ≤ nL ∧ q12 = .int .i64 i ∧ Hid (LR w3 wr (partK L f u i) q10 q11)) (fun _ _ q12 _ => nL - (intOf q12).toNat)
    case atStart => exact ⟨0, Nat.zero_le _, rfl, H0⟩
    case round =>
      obtain ⟨i, hi, rfl, HLR⟩ := hrel
      clear H0
      obtain ⟨_, l0, l1, l2⟩ := H5.out _ HLR.out.bl
      have ui : IntKind.i64.wrap ((i : Int) + 1) = (i : Int) + 1 := IntWalk.i64_in _ (by omega)
      by_cases hlt : i < nL
      case pos =>
        have hltD : decide (i < nL) = true := by simp [hlt]
        have hltI : (i : Int) < (nL : Int) := by omega
        have hiI : (0 : Int) ≤ (i : Int) := by omega
        obtain ⟨ba, offa, a, hA, hba, hai, p0, p1, p2, p3, p4⟩ := (HL3.out.below (HLR.out.bl.mono HS3.out)).ar_at hlt
        have hao := HLO.out.ok a (List.mem_of_getElem? hai)
        have HAI := Lib.hid hai
        rw [hA] at l1
        obtain ⟨w4, hw4⟩ : ∃ w4, wr.alloc (.cells #[.int .i64 a.fr, .int .i64 a.tt, .int .i64 a.tm, .int .i64 a.co, .slice a.A a.n a.c] 68) = w4 := ⟨_, rfl⟩
        have hb4 : Below wr.heap.size wr w4 := by rw [← hw4]; exact (Below.refl _ _).alloc (Nat.le_refl _) _
        have K4 : Blk w4 wr.heap.size 68 #[.int .i64 a.fr, .int .i64 a.tt, .int .i64 a.tm, .int .i64 a.co, .slice a.A a.n a.c] := by rw [← hw4]; exact Blk.new' _ _ _ rfl
        have HK4 := Lib.hid K4
        have HB4 := Lib.hid hb4
        have HLR4 := Lib.hid (HLR.out.next hb4)
        have v0 := K4.cell 0
        have v1 := K4.cell 1
        have v2 := K4.cell 2
        have v3 := K4.cell 3
        have v4 := K4.cell 4
        simp at v0 v1 v2 v3 v4
        have z0 := K4.frozen 0
        have z1 := K4.frozen 1
        have HW4 := Lib.hid hw4
        clear hA hba hai hw4 hb4 K4
        go_upto_region 12 with fail
        rw [HW4.out]
        clear p0 p1 p2 p3 p4 l0 l1 l2
        by_cases c1 : (f : Int) ≤ a.fr
        case neg =>
          have D1 : decide ((f : Int) ≤ a.fr) = false := by simp [c1]
          have hin : a.inn f u = false := by simp [Ar.inn, c1]
          have HPK := Lib.hid (partK_no HAI.out hin)
          clear c1 hin
          go_wp2_with fail
          go_roundw
          case rel => exact ⟨i + 1, by omega, by go_num, by rw [HPK.out]; exact HLR4.out⟩
          case measure => simp [intOf]; omega
        case pos =>
        have D1 : decide ((f : Int) ≤ a.fr) = true := by simp [c1]
        by_cases c2 : a.tt ≤ (u : Int)
        case neg =>
          have D2 : decide (a.tt ≤ (u : Int)) = false := by simp [c2]
          have hin : a.inn f u = false := by simp [Ar.inn, c1, c2]
          have HPK := Lib.hid (partK_no HAI.out hin)
          clear c1 c2 hin
          go_wp2_with fail
          go_roundw
          case rel => exact ⟨i + 1, by omega, by go_num, by rw [HPK.out]; exact HLR4.out⟩
          case measure => simp [intOf]; omega
        case pos =>
        have D2 : decide (a.tt ≤ (u : Int)) = true := by simp [c2]
        have hin : a.inn f u = true := by simp [Ar.inn, c1, c2]
        have HPK := Lib.hid (partK_yes HAI.out hin)
        have w1' : IntKind.i64.wrap (a.fr - (f : Int)) = a.fr - (f : Int) := IntWalk.i64_in _ (by omega)
        have w2' : IntKind.i64.wrap (a.tt - (f : Int)) = a.tt - (f : Int) := IntWalk.i64_in _ (by omega)
        clear hin
        go_upto_region 14 with fail
        obtain ⟨w5, hw5⟩ : ∃ w5, (w4.setCell ⟨wr.heap.size, 0, none⟩ (.int .i64 (a.fr - (f : Int)))).setCell ⟨wr.heap.size, 1, none⟩ (.int .i64 (a.tt - (f : Int))) = w5 := ⟨_, rfl⟩
        have hb5 : Below wr.heap.size wr w5 := by rw [← hw5]; exact (HB4.out.setCell (p := ⟨wr.heap.size, 0, none⟩) (Nat.le_refl _) _).setCell (p := ⟨wr.heap.size, 1, none⟩) (Nat.le_refl _) _
        have K5 : Blk w5 wr.heap.size 68 #[.int .i64 (a.fr - (f : Int)), .int .i64 (a.tt - (f : Int)), .int .i64 a.tm, .int .i64 a.co, .slice a.A a.n a.c] := by
          rw [← hw5]
          have := (HK4.out.set_ 0 (.int .i64 (a.fr - (f : Int)))).set_ 1 (.int .i64 (a.tt - (f : Int)))
          simpa using this
        have HLR5 := Lib.hid (HLR.out.next hb5)
        rw [hw5]
        clear v0 v1 v2 v3 v4 z0 z1 hw5 HLR4 HB4 HK4 HW4 D1 D2 w1' w2' c1 c2
        have v0 := K5.cell 0
        have v1 := K5.cell 1
        have v2 := K5.cell 2
        have v3 := K5.cell 3
        have v4 := K5.cell 4
        simp at v0 v1 v2 v3 v4
        have hpl := partK_len L f u i
        obtain ⟨i1, hi1, hy0, hy1, hy2⟩ := info_parts infoAr
        obtain ⟨i2, hi2, hx0, hx1, hx2⟩ := info_parts infoInt
        have HOa : Hid ((w5.alloc (.cells #[.int .i64 (a.fr - (f : Int)), .int .i64 (a.tt - (f : Int)), .int .i64 a.tm, .int .i64 a.co, .slice a.A a.n a.c] 68)).ownsRow w3.heap.size 68 5 u10 (partK L f u i).length (ars ((partK L f u i).map (·.1)))) :=
          own_below HLR5.out.oa ((Below.refl _ _).alloc (Nat.le_refl _) _)
        have HOb : Hid ((w5.alloc (.cells #[.int .i64 (a.fr - (f : Int)), .int .i64 (a.tt - (f : Int)), .int .i64 a.tm, .int .i64 a.co, .slice a.A a.n a.c] 68)).ownsRow w3.heap.size 3 1 u11 (partK L f u i).length (ints ((partK L f u i).map fun x => (x.2 : Int)))) :=
          own_below HLR5.out.oo ((Below.refl _ _).alloc (Nat.le_refl _) _)
        have HRa : Hid (Reads (w5.alloc (.cells #[.int .i64 (a.fr - (f : Int)), .int .i64 (a.tt - (f : Int)), .int .i64 a.tm, .int .i64 a.co, .slice a.A a.n a.c] 68)) (w5.heap.size + 1) 5 (some ⟨w5.heap.size, 0, none⟩) 1 (a.sh f).cells) :=
          Reads.of_blk (Blk.new' _ _ _ rfl) (Nat.lt_succ_self _) rfl rfl
        have HEO : Hid (∀ u ∈ (a.sh f).cells, u.oneCell' = true) := fun u hu => by simp [Ar.cells] at hu; rcases hu with rfl | rfl | rfl | rfl | rfl <;> rfl
        have HBL5 := Lib.hid HLR5.out.bl
        have hz5 : w3.heap.size ≤ (w5.alloc (.cells #[.int .i64 (a.fr - (f : Int)), .int .i64 (a.tt - (f : Int)), .int .i64 a.tm, .int .i64 a.co, .slice a.A a.n a.c] 68)).heap.size := by have := HLR5.out.bl.size; simp; omega
        clear HLR5 hb5 K5
        go_wp2_with (first
          | (at_builtin; (refine wpList_append_any _ (by rfl) _ _ 25 (by rfl) w3.heap.size 68 i1 (.agg #[.int .i64 0, .int .i64 0, .int .i64 0, .int .i64 0, .slice none 0 0]) 5 56 Tryd.underlying25 hi1 hy0 hy1 hy2 rfl (by decide) u10 (partK L f u i).length (ars ((partK L f u i).map (·.1))) (by rfl) HOa.out (w5.heap.size + 1) (some ⟨w5.heap.size, 0, none⟩) 1 1 (a.sh f).cells (by rfl) HRa.out HEO.out (by unfold maxLen; omega) (by omega) hz5 ?_; intro v6 w6 hown6 hgrow6 hat6; obtain ⟨A6, cA, rfl, hc6, _⟩ := own_form hown6; have HO6 := Lib.hid hown6; have ho6 := own_grown HOb.out hgrow6 (fun k hk e => own_apart HOa.out HOb.out (by decide) e hk); have hb6 : Below w3.heap.size w3 w6 := (HBL5.out.alloc HBL5.out.size _).grown hgrow6 hz5 (fun k hk => own_ge HOa.out hk); have HB6 := Lib.hid hb6; have HOa6 : Hid ((w6.alloc (.cells #[.int .i64 (i : Int)] 3)).ownsRow w3.heap.size 68 5 (.slice A6 ((partK L f u i).length + 1) cA) ((partK L f u i).length + 1) (ars ((partK L f u i).map (·.1)) ++ (a.sh f).cells)) := own_below hown6 ((Below.refl _ _).alloc (Nat.le_refl _) _); have HOb6 : Hid ((w6.alloc (.cells #[.int .i64 (i : Int)] 3)).ownsRow w3.heap.size 3 1 u11 (partK L f u i).length (ints ((partK L f u i).map fun x => (x.2 : Int)))) := own_below ho6 ((Below.refl _ _).alloc (Nat.le_refl _) _); have HRb : Hid (Reads (w6.alloc (.cells #[.int .i64 (i : Int)] 3)) (w6.heap.size + 1) 1 (some ⟨w6.heap.size, 0, none⟩) 1 [.int .i64 (i : Int)]) := Reads.of_blk (Blk.new' _ _ _ rfl) (Nat.lt_succ_self _) rfl rfl; have HEI : Hid (∀ u ∈ [Value.int .i64 (i : Int)], u.oneCell' = true) := fun u hu => one_of_mem hu; have hz6 : w3.heap.size ≤ (w6.alloc (.cells #[.int .i64 (i : Int)] 3)).heap.size := Nat.le_trans hb6.size (by simp); clear hown6 hgrow6 hat6 hc6 v0 v1 v2 v3 v4 hz5 ho6 hb6))
          | (at_builtin; (refine wpList_append_any _ (by rfl) _ _ 26 (by rfl) w3.heap.size 3 i2 (.int .i64 0) 1 8 Tryd.underlying26 hi2 hx0 hx1 hx2 rfl (by decide) u11 (partK L f u i).length (ints ((partK L f u i).map fun x => (x.2 : Int))) (by rfl) HOb6.out (w6.heap.size + 1) (some ⟨w6.heap.size, 0, none⟩) 1 1 [.int .i64 (i : Int)] (by rfl) HRb.out HEI.out (by unfold maxLen; omega) (by omega) hz6 ?_; intro v8 w8 hown8 hgrow8 hat8; obtain ⟨A8, cB, rfl, hc8, _⟩ := own_form hown8; have ho8 := own_grown HOa6.out hgrow8 (fun k hk e => own_apart HOa6.out HOb6.out (by decide) hk e); have hb8 : Below w3.heap.size w3 w8 := (HB6.out.alloc HB6.out.size _).grown hgrow8 hz6 (fun k hk => own_ge HOb6.out hk); have HLR8 : Hid (LR w3 w8 (partK L f u (i + 1)) (.slice A6 ((partK L f u i).length + 1) cA) (.slice A8 ((partK L f u i).length + 1) cB)) := (by rw [HPK.out]; exact LR.snoc hb8 ho8 hown8); clear hown8 hgrow8 hat8 hc8 ho8 hb8 hz6)))
        go_roundw
        case rel => exact ⟨i + 1, by omega, by go_num, HLR8.out⟩
        case measure => simp [intOf]; omega
      case neg =>
        have hltD : decide (i < nL) = false := by simp [hlt]
        obtain rfl : nL = i := by omega
        obtain ⟨A1, cA1, rfl, hcA1, _⟩ := own_form HLR.out.oa
        obtain ⟨A2, cA2, rfl, hcA2, _⟩ := own_form HLR.out.oo
        have hpl := partK_len L f u nL
        obtain ⟨nP, hnP⟩ : ∃ nP, (partK L f u nL).length = nP := ⟨_, rfl⟩
        obtain ⟨Z, hZ⟩ : ∃ Z, (ints (List.replicate q 0)).toArray = Z := ⟨_, rfl⟩
        have hfd := HFD.out
        have hsb := HSB.out
        have HMK := Lib.hid (show ∀ w, (Instr.makeSlice 26 (.int .i64 (q : Int)) (.int .i64 (q : Int))).run Tryd.prog w = .ok (.slice (some ⟨w.heap.size, 0, none⟩) q q) (w.alloc (.cells Z 3)) from fun w => by rw [← hZ]; exact run_make_ints q (by omega) w)
        have HZ := Lib.hid hZ
        have HNP := Lib.hid hnP
        rw [hnP]
        have HP9 := Lib.hid (HP3.out.below HLR.out.bl HP3.out.lt)
        clear hZ hnP ui
        go_upto_region 15 with fail
        clear l0 l1 l2
        go_cut [] (fun wx => ∃ zg, Touch (fun k => k = p) wr wx ∧ Blk wx p 28 #[.int .i64 (q : Int), .slice A1 nP cA1, .slice (some ⟨zg, 0, none⟩) q q] ∧ wr.heap.size ≤ zg ∧ Blk wx zg 3 Z)
        case first =>
          refine wp_region_steps (by kernel_rfl) (by kernel_rfl) (fun a0 => a0.tmps.size = 187 ∧ a0.eval (.tmp 7) = .int .i64 (f : Int) ∧ a0.eval (.tmp 8) = .int .i64 (u : Int) ∧ a0.eval (.tmp 9) = .pointer (some ⟨p, 0, none⟩) ∧ a0.eval (.tmp 10) = .slice A1 nP cA1)
            (fun a0 d a w9 => Same a0 [87, 88, 89, 90, 91, 92, 93, 94] a ∧ PFill wr w9 p q (.slice A1 nP cA1) Z (d 5) (d 7) (d 9) (a.eval (.tmp 92)) ∧ (d 0 = true → a.eval (.tmp 87) = .slice A1 nP cA1) ∧ (d 1 = true → a.eval (.tmp 88) = .int .i64 (u : Int)) ∧ (d 2 = true → a.eval (.tmp 89) = .int .i64 (f : Int)) ∧ (d 3 = true → a.eval (.tmp 90) = .int .i64 (r : Int)) ∧ (d 4 = true → a.eval (.tmp 91) = .int .i64 (q : Int)) ∧ (d 6 = true → a.eval (.tmp 93) = .pointer (some ⟨p, 1, none⟩)) ∧ (d 8 = true → a.eval (.tmp 94) = .pointer (some ⟨p, 2, none⟩)))
            ⟨rfl, rfl, rfl, rfl, rfl⟩ (fun a0 _ => ⟨Same.refl _ _, PFill.start HP9.out _, by simp, by simp, by simp, by simp, by simp, by simp, by simp⟩) ?_ ?_
          · intro a0 hF
            obtain ⟨hsz, f7, f8, f9, f10⟩ := hF
            refine ⟨?_, ?_, ?_, ?_, ?_, ?_, ?_, ?_, ?_, ?_, trivial⟩
            · intro d a w9 K hd hdep ⟨hsm, htb, h87, h88, h89, h90, h91, h93, h94⟩ hK
              have hz : a.tmps.size = 187 := hsm.sz.trans hsz
              have hd0 : d 0 = false := hd
              rw [if_pos (by rfl)]
              have zz : 87 < a.tmps.size := by rw [hz]; decide
              have t10 := tmps_of_eval ((hsm.ev 10 (by decide)).trans f10) (by rw [hz]; decide)
              simp only [Oper.wp, execOp]
              go_simp
              show K (a.put (some 87) (.slice A1 nP cA1)) _
              refine hK.out _ _ ⟨hsm.put (by decide) _, ?_, fun _ => eval_put_same zz, fun h => (eval_put_ne (by decide)).trans (h88 h), fun h => (eval_put_ne (by decide)).trans (h89 h), fun h => (eval_put_ne (by decide)).trans (h90 h), fun h => (eval_put_ne (by decide)).trans (h91 h), fun h => (eval_put_ne (by decide)).trans (h93 h), fun h => (eval_put_ne (by decide)).trans (h94 h)⟩
              rw [eval_put_ne (a := a) (d := 87) (k := 92) (by decide)]
              exact htb
            · intro d a w9 K hd hdep ⟨hsm, htb, h87, h88, h89, h90, h91, h93, h94⟩ hK
              have hz : a.tmps.size = 187 := hsm.sz.trans hsz
              have hd1 : d 1 = false := hd
              rw [if_pos (by rfl)]
              have zz : 88 < a.tmps.size := by rw [hz]; decide
              have t8 := tmps_of_eval ((hsm.ev 8 (by decide)).trans f8) (by rw [hz]; decide)
              simp only [Oper.wp, execOp]
              go_simp
              show K (a.put (some 88) (.int .i64 (u : Int))) _
              refine hK.out _ _ ⟨hsm.put (by decide) _, ?_, fun h => (eval_put_ne (by decide)).trans (h87 h), fun _ => eval_put_same zz, fun h => (eval_put_ne (by decide)).trans (h89 h), fun h => (eval_put_ne (by decide)).trans (h90 h), fun h => (eval_put_ne (by decide)).trans (h91 h), fun h => (eval_put_ne (by decide)).trans (h93 h), fun h => (eval_put_ne (by decide)).trans (h94 h)⟩
              rw [eval_put_ne (a := a) (d := 88) (k := 92) (by decide)]
              exact htb
            · intro d a w9 K hd hdep ⟨hsm, htb, h87, h88, h89, h90, h91, h93, h94⟩ hK
              have hz : a.tmps.size = 187 := hsm.sz.trans hsz
              have hd2 : d 2 = false := hd
              rw [if_pos (by rfl)]
              have zz : 89 < a.tmps.size := by rw [hz]; decide
              have t7 := tmps_of_eval ((hsm.ev 7 (by decide)).trans f7) (by rw [hz]; decide)
              simp only [Oper.wp, execOp]
              go_simp
              show K (a.put (some 89) (.int .i64 (f : Int))) _
              refine hK.out _ _ ⟨hsm.put (by decide) _, ?_, fun h => (eval_put_ne (by decide)).trans (h87 h), fun h => (eval_put_ne (by decide)).trans (h88 h), fun _ => eval_put_same zz, fun h => (eval_put_ne (by decide)).trans (h90 h), fun h => (eval_put_ne (by decide)).trans (h91 h), fun h => (eval_put_ne (by decide)).trans (h93 h), fun h => (eval_put_ne (by decide)).trans (h94 h)⟩
              rw [eval_put_ne (a := a) (d := 89) (k := 92) (by decide)]
              exact htb
            · intro d a w9 K hd hdep ⟨hsm, htb, h87, h88, h89, h90, h91, h93, h94⟩ hK
              have hz : a.tmps.size = 187 := hsm.sz.trans hsz
              have hd3 : d 3 = false := hd
              rw [if_pos (by rfl)]
              have zz : 90 < a.tmps.size := by rw [hz]; decide
              have d1 : d 1 = true := hdep ⟨1, .data⟩ (by simp) (by rfl)
              have d2 : d 2 = true := hdep ⟨2, .data⟩ (by simp) (by rfl)
              have t88 := tmps_of_eval (h88 d1) (by rw [hz]; decide)
              have t89 := tmps_of_eval (h89 d2) (by rw [hz]; decide)
              have uu := HU.out.1
              simp only [Oper.wp, execOp]
              go_simp
              show K (a.put (some 90) (.int .i64 (r : Int))) _
              refine hK.out _ _ ⟨hsm.put (by decide) _, ?_, fun h => (eval_put_ne (by decide)).trans (h87 h), fun h => (eval_put_ne (by decide)).trans (h88 h), fun h => (eval_put_ne (by decide)).trans (h89 h), fun _ => eval_put_same zz, fun h => (eval_put_ne (by decide)).trans (h91 h), fun h => (eval_put_ne (by decide)).trans (h93 h), fun h => (eval_put_ne (by decide)).trans (h94 h)⟩
              rw [eval_put_ne (a := a) (d := 90) (k := 92) (by decide)]
              exact htb
            · intro d a w9 K hd hdep ⟨hsm, htb, h87, h88, h89, h90, h91, h93, h94⟩ hK
              have hz : a.tmps.size = 187 := hsm.sz.trans hsz
              have hd4 : d 4 = false := hd
              rw [if_pos (by rfl)]
              have zz : 91 < a.tmps.size := by rw [hz]; decide
              have d3 : d 3 = true := hdep ⟨3, .data⟩ (by simp) (by rfl)
              have t90 := tmps_of_eval (h90 d3) (by rw [hz]; decide)
              have u1 := HU.out.2
              simp only [Oper.wp, execOp]
              go_simp
              show K (a.put (some 91) (.int .i64 (q : Int))) _
              refine hK.out _ _ ⟨hsm.put (by decide) _, ?_, fun h => (eval_put_ne (by decide)).trans (h87 h), fun h => (eval_put_ne (by decide)).trans (h88 h), fun h => (eval_put_ne (by decide)).trans (h89 h), fun h => (eval_put_ne (by decide)).trans (h90 h), fun _ => eval_put_same zz, fun h => (eval_put_ne (by decide)).trans (h93 h), fun h => (eval_put_ne (by decide)).trans (h94 h)⟩
              rw [eval_put_ne (a := a) (d := 91) (k := 92) (by decide)]
              exact htb
            · intro d a w9 K hd hdep ⟨hsm, htb, h87, h88, h89, h90, h91, h93, h94⟩ hK
              have hz : a.tmps.size = 187 := hsm.sz.trans hsz
              have hd5 : d 5 = false := hd
              rw [if_pos (by rfl)]
              have zz : 92 < a.tmps.size := by rw [hz]; decide
              have d4 : d 4 = true := hdep ⟨4, .data⟩ (by simp) (by rfl)
              have t91 := tmps_of_eval (h91 d4) (by rw [hz]; decide)
              have hmk := HMK.out
              simp only [Oper.wp, execOp]
              go_simp
              show K (a.put (some 92) _) _
              refine hK.out _ _ ⟨hsm.put (by decide) _, ?_, fun h => (eval_put_ne (by decide)).trans (h87 h), fun h => (eval_put_ne (by decide)).trans (h88 h), fun h => (eval_put_ne (by decide)).trans (h89 h), fun h => (eval_put_ne (by decide)).trans (h90 h), fun h => (eval_put_ne (by decide)).trans (h91 h), fun h => (eval_put_ne (by decide)).trans (h93 h), fun h => (eval_put_ne (by decide)).trans (h94 h)⟩
              rw [eval_put_same (a := a) (d := 92) zz]
              rw [hd5] at htb
              exact htb.make
            · intro d a w9 K hd hdep ⟨hsm, htb, h87, h88, h89, h90, h91, h93, h94⟩ hK
              have hz : a.tmps.size = 187 := hsm.sz.trans hsz
              have hd6 : d 6 = false := hd
              rw [if_pos (by rfl)]
              have zz : 93 < a.tmps.size := by rw [hz]; decide
              have t9 := tmps_of_eval ((hsm.ev 9 (by decide)).trans f9) (by rw [hz]; decide)
              simp only [Oper.wp, execOp]
              go_simp
              show K (a.put (some 93) (.pointer (some ⟨p, 1, none⟩))) _
              refine hK.out _ _ ⟨hsm.put (by decide) _, ?_, fun h => (eval_put_ne (by decide)).trans (h87 h), fun h => (eval_put_ne (by decide)).trans (h88 h), fun h => (eval_put_ne (by decide)).trans (h89 h), fun h => (eval_put_ne (by decide)).trans (h90 h), fun h => (eval_put_ne (by decide)).trans (h91 h), fun _ => eval_put_same zz, fun h => (eval_put_ne (by decide)).trans (h94 h)⟩
              rw [eval_put_ne (a := a) (d := 93) (k := 92) (by decide)]
              exact htb
            · intro d a w9 K hd hdep ⟨hsm, htb, h87, h88, h89, h90, h91, h93, h94⟩ hK
              have hz : a.tmps.size = 187 := hsm.sz.trans hsz
              have hd7 : d 7 = false := hd
              rw [if_pos (by rfl)]
              have d0 : d 0 = true := hdep ⟨0, .data⟩ (by simp) (by rfl)
              have d6 : d 6 = true := hdep ⟨6, .data⟩ (by simp) (by rfl)
              have t93 := tmps_of_eval (h93 d6) (by rw [hz]; decide)
              have t87 := tmps_of_eval (h87 d0) (by rw [hz]; decide)
              rw [hd7] at htb
              have c1 := htb.cell1
              have z1 := htb.blk.frozen 1
              simp only [Oper.wp, execOp]
              go_simp
              show K a _
              refine hK.out _ _ ⟨hsm, ?_, h87, h88, h89, h90, h91, h93, h94⟩
              exact htb.put1
            · intro d a w9 K hd hdep ⟨hsm, htb, h87, h88, h89, h90, h91, h93, h94⟩ hK
              have hz : a.tmps.size = 187 := hsm.sz.trans hsz
              have hd8 : d 8 = false := hd
              rw [if_pos (by rfl)]
              have zz : 94 < a.tmps.size := by rw [hz]; decide
              have t9 := tmps_of_eval ((hsm.ev 9 (by decide)).trans f9) (by rw [hz]; decide)
              simp only [Oper.wp, execOp]
              go_simp
              show K (a.put (some 94) (.pointer (some ⟨p, 2, none⟩))) _
              refine hK.out _ _ ⟨hsm.put (by decide) _, ?_, fun h => (eval_put_ne (by decide)).trans (h87 h), fun h => (eval_put_ne (by decide)).trans (h88 h), fun h => (eval_put_ne (by decide)).trans (h89 h), fun h => (eval_put_ne (by decide)).trans (h90 h), fun h => (eval_put_ne (by decide)).trans (h91 h), fun h => (eval_put_ne (by decide)).trans (h93 h), fun _ => eval_put_same zz⟩
              rw [eval_put_ne (a := a) (d := 94) (k := 92) (by decide)]
              exact htb
            · intro d a w9 K hd hdep ⟨hsm, htb, h87, h88, h89, h90, h91, h93, h94⟩ hK
              have hz : a.tmps.size = 187 := hsm.sz.trans hsz
              have hd9 : d 9 = false := hd
              rw [if_pos (by rfl)]
              have d5 : d 5 = true := hdep ⟨5, .data⟩ (by simp) (by rfl)
              have d8 : d 8 = true := hdep ⟨8, .data⟩ (by simp) (by rfl)
              have t94 := tmps_of_eval (h94 d8) (by rw [hz]; decide)
              rw [hd9, d5] at htb
              obtain ⟨zg, e92, hzg, hZg⟩ := htb.mz rfl
              have t92 := tmps_of_eval e92 (by rw [hz]; decide)
              rw [e92] at htb
              have c2 := htb.cell2
              have z2 := htb.blk.frozen 2
              simp only [Oper.wp, execOp]
              go_simp
              show K a _
              refine hK.out _ _ ⟨hsm, ?_, h87, h88, h89, h90, h91, h93, h94⟩
              rw [show upd d (0 + 1 + 1 + 1 + 1 + 1 + 1 + 1 + 1 + 1) 5 = true from d5, show upd d (0 + 1 + 1 + 1 + 1 + 1 + 1 + 1 + 1 + 1) 9 = true from rfl, e92]
              exact htb.put2
          · intro d a w9 hd ⟨hsm, htb, h87, h88, h89, h90, h91, h93, h94⟩
            have d0 : d 0 = true := hd 0 (by simp)
            have d1 : d 1 = true := hd 1 (by simp)
            have d2 : d 2 = true := hd 2 (by simp)
            have d3 : d 3 = true := hd 3 (by simp)
            have d4 : d 4 = true := hd 4 (by simp)
            have d5 : d 5 = true := hd 5 (by simp)
            have d6 : d 6 = true := hd 6 (by simp)
            have d7 : d 7 = true := hd 7 (by simp)
            have d8 : d 8 = true := hd 8 (by simp)
            have d9 : d 9 = true := hd 9 (by simp)
            rw [d5, d7, d9] at htb
            obtain ⟨zg, e92, hzg, hZg⟩ := htb.mz rfl
            have ht := htb.tch
            have hb := htb.blk
            rw [e92] at hb
            have ha := hsm.eq
            simp only [List.foldl_cons, List.foldl_nil] at ha
            rw [h87 d0, h88 d1, h89 d2, h90 d3, h91 d4, e92, h93 d6, h94 d8] at ha
            clear hsm htb h87 h88 h89 h90 h91 e92 h93 h94 hd
            subst ha
            simp only [Act.put, List.setIfInBounds_toArray, List.set_cons_zero, List.set_cons_succ]
            go_wp2_with fail
            go_meet
            exact ⟨zg, ht, hb, hzg, hZg⟩
        case rest =>
          obtain ⟨zg, ht, hkp, hzg, hzb⟩ := hcut
          rename World => w10
          have hxr : Below bn w wr := HX3.out.trans (HLR.out.bl.mono HS3.out)
          have hbp := HBP.out
          have hsr : bn ≤ wr.heap.size := Nat.le_trans HS3.out HLR.out.bl.size
          have hx10 : Below bn w w10 := hxr.trans (ht.toBelow (fun k hk => by subst hk; omega) hsr)
          have HX10 := Lib.hid hx10
          have hq : u - f + 1 = q := by omega
          have hnPl : nP ≤ nL := by rw [← HNP.out]; exact partK_len L f u nL
          have hLn : L.length = nL := HLL.out
          have hsz10 : bn ≤ w10.heap.size := Nat.le_trans hsr ht.size
          have HSZ10 := Lib.hid hsz10
          have HA110 := Lib.hid ((HA13.out.below HLR.out.bl HA13.out.lt).touch ht (by omega))
          have HA210 := Lib.hid ((HA23.out.below HLR.out.bl HA23.out.lt).touch ht (by omega))
          have HKP := Lib.hid hkp
          have HLp : Hid (Reads w10 w10.heap.size 5 A1 nP (ars ((partK L f u nL).map (·.1)))) := by
            have h := own_touch HLR.out.oa ht (fun k hk e => by have := own_ge HLR.out.oa hk; have := HP3.out.lt; omega)
            rw [HNP.out] at h
            exact Reads.of_own h
          have HOp : Hid (Reads w10 w10.heap.size 1 A2 nP (ints ((partK L f u nL).map fun x => (x.2 : Int)))) := by
            have h := own_touch HLR.out.oo ht (fun k hk e => by have := own_ge HLR.out.oo hk; have := HP3.out.lt; omega)
            rw [HNP.out] at h
            exact Reads.of_own h
          have HZp : Hid (Reads w10 w10.heap.size 1 (some ⟨zg, 0, none⟩) q (ints (List.replicate q 0))) := Reads.of_blk hzb hzb.lt (by rw [← HZ.out]) (by simp [ints])
          have HNo : Hid (NoneAt w10) := HG0.out _ hx10
          have HR10 := Lib.hid (HR.out.below hx10)
          have HL10 := Lib.hid (HL.out.below hx10)
          have HF10 := Lib.hid (HF.out.below hx10)
          have H10 : Hid (∀ w9, Below w10.heap.size w10 w9 → (w9.cell? ⟨bn, 0, none⟩ = some (.int .i64 T) ∧ w9.cell? ⟨bn, 1, none⟩ = some (.int .i64 N') ∧ w9.cell? ⟨bn, 2, none⟩ = some (.int .i64 st) ∧ w9.cell? ⟨bn, 3, none⟩ = some (.slice RA nR rc)) ∧ (w9.cell? ⟨bn + 1, 0, none⟩ = some (.int .i64 S') ∧ w9.cell? ⟨bn + 1, 1, none⟩ = some (.slice LA nL lc) ∧ w9.cell? ⟨bn + 1, 2, none⟩ = some (.slice FA nf fc)) ∧ (w9.cell? ⟨p, 0, none⟩ = some (.int .i64 (q : Int)) ∧ w9.cell? ⟨p, 1, none⟩ = some (.slice A1 nP cA1) ∧ w9.cell? ⟨p, 2, none⟩ = some (.slice (some ⟨zg, 0, none⟩) q q))) := fun w9 h => by
            have K := HA110.out.below h HA110.out.lt
            have K' := HA210.out.below h HA210.out.lt
            have K'' := HKP.out.below h HKP.out.lt
            exact ⟨⟨K.cell 0, K.cell 1, K.cell 2, K.cell 3⟩, ⟨K'.cell 0, K'.cell 1, K'.cell 2⟩, K''.cell 0, K''.cell 1, K''.cell 2⟩
          have HLK : Hid (LatOk (q : Int) T (List.replicate q 0) ((partK L f u nL).map (·.1))) := by
            have h := HLAT.out.part (f := f) (u := u) (fs' := List.replicate q 0) (by omega) (by rw [hq]; simp) (fun x hx => (List.mem_replicate.1 hx).2)
            rw [hq, hLn] at h
            exact h
          have HVA : Hid (Calls Tryd.prog 29 #[.agg #[.int .i64 (q : Int), .slice A1 nP cA1, .slice (some ⟨zg, 0, none⟩) q q], .int .i64 T] w10 fun e w' => e = .returned (.bool true) ∧ Below w10.heap.size w10 w') :=
            (valid37_any w10 (q : Int) T nP cA1 q q w10.heap.size A1 (some ⟨zg, 0, none⟩) _ _ HLp.out HZp.out (Nat.le_refl _) (by omega) (by omega)).mono fun e w' ⟨b, he, hb, hw⟩ => ⟨by rw [he, hb.2 HLK.out], hw⟩
          obtain ⟨⟨n0, _, _, _⟩, _, l0, l1, l2⟩ := H10.out w10 (Below.refl _ _)
          have HAO : Hid (ArsOk q ((partK L f u nL).map (·.1))) := by have h := HLK.out.ars; rw [Int.toNat_natCast] at h; exact h
          have HQ := Lib.hid hq
          have HPL : Hid (((partK L f u nL).map (·.1)).length = nP) := by show _ = nP; rw [List.length_map]; exact HNP.out
          obtain ⟨Lp, hLp⟩ : ∃ Lp, (partK L f u nL).map (·.1) = Lp := ⟨_, rfl⟩
          rw [hLp] at HLp HLK HAO HPL
          have HLPE := Lib.hid hLp
          have HNPL : Hid (nP ≤ 40) := by show nP ≤ 40; omega
          clear ht hkp hzg hzb hxr hbp hsr hx10 hq hLn hsz10 HLR H5 HP9 HMK hcA1 hcA2 hpl hsb hfd hnPl hLp
          go_upto_region 16 with fail
          go_wp2_with fail
          refine HVA.out.mono ?_
          rintro e w11 ⟨rfl, hb11⟩
          have HX11 := Lib.hid hb11
          clear n0 l0 l1 l2 hb11
          go_upto_region 18 with fail
          obtain ⟨nc, hnc⟩ : ∃ nc, tri S' S' * N' = nc := ⟨_, rfl⟩
          obtain ⟨nd, hnd⟩ : ∃ nd, tri q q * N' = nd := ⟨_, rfl⟩
          have hsb := HSB.out
          have hfd := HFD.out
          have hnc0 : 0 < nc := by
            have h4 := tri_ge S' S' (Nat.le_refl _)
            have h5 : 1 * 1 ≤ tri S' S' * N' := Nat.mul_le_mul (by omega) hsb.1
            omega
          have hnd0 : 0 < nd := by
            have h4 := tri_ge q q (Nat.le_refl _)
            have h5 : 1 * 1 ≤ tri q q * N' := Nat.mul_le_mul (by omega) hsb.1
            omega
          have hncb : nc ≤ 1000 := by
            have h1 := tri_le S' S'
            have h2 : S' * S' ≤ 9 * 9 := Nat.mul_le_mul hsb.2.2.1 hsb.2.2.1
            have h3 : tri S' S' * N' ≤ 81 * 10 := Nat.mul_le_mul (by omega) hsb.2.1
            omega
          have hndb : nd ≤ 1000 := by
            have h1 := tri_le q q
            have h2 : q * q ≤ 9 * 9 := Nat.mul_le_mul (by omega) (by omega)
            have h3 : tri q q * N' ≤ 81 * 10 := Nat.mul_le_mul (by omega) hsb.2.1
            omega
          have HB1 : Hid (∀ w9, Below w11.heap.size w11 w9 → Calls Tryd.prog 14 #[.agg #[.int .i64 T, .int .i64 N', .int .i64 st, .slice RA nR rc], .agg #[.int .i64 S', .slice LA nL lc, .slice FA nf fc]] w9 fun e w' => ∃ A c cs, e = .returned (.agg #[.int .i64 N', .int .i64 S', .slice A nc c]) ∧ Reads w' w'.heap.size 4 A nc (cls cs) ∧ Chart R L N' S' cs ∧ Below w9.heap.size w9 w') := fun w9 h9 => by
            have h10 : Below w10.heap.size w10 w9 := HX11.out.trans (h9.mono HX11.out.size)
            have hx9 : Below bn w10 w9 := h10.mono HSZ10.out
            have h1 := HR10.out.below hx9
            have h2 := HL10.out.below hx9
            have hl : R.length = nR := HRL.out
            have hl2 : L.length = nL := HLL.out
            rw [← hl] at h1 ⊢
            rw [← hl2] at h2 ⊢
            refine (build_any w9 T st N' S' rc lc nf fc bn RA LA FA R L h1 h2 (Nat.le_trans HSZ10.out h10.size) (HG0.out _ (HX10.out.trans hx9)) HRO.out HLO.out hsb.1 (by omega) (by omega) (by omega) (by omega)).mono ?_
            rintro e w' ⟨v, rfl, ⟨A, c, cs, rfl, hr, hch, _⟩, hb⟩
            rw [hnc] at hr ⊢
            exact ⟨A, c, cs, rfl, hr, hch, hb⟩
          have HB2 : Hid (∀ w9, Below w11.heap.size w11 w9 → Calls Tryd.prog 14 #[.agg #[.int .i64 T, .int .i64 N', .int .i64 st, .slice RA nR rc], .agg #[.int .i64 (q : Int), .slice A1 nP cA1, .slice (some ⟨zg, 0, none⟩) q q]] w9 fun e w' => ∃ A c cs, e = .returned (.agg #[.int .i64 N', .int .i64 (q : Int), .slice A nd c]) ∧ Reads w' w'.heap.size 4 A nd (cls cs) ∧ Chart R Lp N' q cs ∧ Below w9.heap.size w9 w') := fun w9 h9 => by
            have h10 : Below w10.heap.size w10 w9 := HX11.out.trans (h9.mono HX11.out.size)
            have hx9 : Below bn w10 w9 := h10.mono HSZ10.out
            have h1 := (HR10.out.below hx9).more (B' := w10.heap.size) HSZ10.out
            have h2 := HLp.out.below h10
            have hl : R.length = nR := HRL.out
            have hl2 : Lp.length = nP := HPL.out
            have hnp := HNPL.out
            rw [← hl] at h1 ⊢
            rw [← hl2] at h2 ⊢
            refine (build_any w9 T st N' q rc cA1 q q w10.heap.size RA A1 (some ⟨zg, 0, none⟩) R Lp h1 h2 h10.size (HG0.out _ (HX10.out.trans hx9)) HRO.out HAO.out hsb.1 (by omega) (by omega) (by omega) (by omega)).mono ?_
            rintro e w' ⟨v, rfl, ⟨A, c, cs, rfl, hr, hch, _⟩, hb⟩
            rw [hnd] at hr ⊢
            exact ⟨A, c, cs, rfl, hr, hch, hb⟩
          have hla9 := chPhi_lasts (R := R) (L := L) (N := N') (S := S') hnc0
          have hlb9 := chPhi_lasts (R := R) (L := Lp) (N := N') (S := q) hnd0
          have HLA := Lib.hid hla9
          have HLB := Lib.hid hlb9
          have HNC := Lib.hid hnc
          have HND := Lib.hid hnd
          clear hla9 hlb9 hnc hnd
          go_cut [14, 15] (fun x14 x15 wx => ∃ (pa pb : Nat) (A : Option Addr) (c : Nat) (cs : List Cl) (A' : Option Addr) (c' : Nat) (cs' : List Cl), x14 = .pointer (some ⟨pa, 0, none⟩) ∧ x15 = .pointer (some ⟨pb, 0, none⟩) ∧ Blk wx pa 34 #[.int .i64 N', .int .i64 S', .slice A nc c] ∧ Blk wx pb 34 #[.int .i64 N', .int .i64 (q : Int), .slice A' nd c'] ∧ Reads wx wx.heap.size 4 A nc (cls cs) ∧ Reads wx wx.heap.size 4 A' nd (cls cs') ∧ Chart R L N' S' cs ∧ Chart R Lp N' q cs' ∧ Below w11.heap.size w11 wx)
          case first =>
            refine wp_region_steps (by kernel_rfl) (by kernel_rfl) (fun a0 => a0.tmps.size = 187 ∧ a0.eval (.tmp 3) = .pointer (some ⟨bn, 0, none⟩) ∧ a0.eval (.tmp 4) = .pointer (some ⟨bn + 1, 0, none⟩) ∧ a0.eval (.tmp 9) = .pointer (some ⟨p, 0, none⟩))
              (fun a0 d a w9 => Same a0 [100, 101, 102, 103, 104, 105, 14, 15] a ∧ TB w11 w9 34 #[.int .i64 0, .int .i64 0, .slice none 0 0] (ChPhi nc R L N' S') (ChPhi nd R Lp N' q) (d 2) (d 5) (d 6) (d 7) (d 8) (d 9) (a.eval (.tmp 102)) (a.eval (.tmp 105)) (a.eval (.tmp 14)) (a.eval (.tmp 15)) ∧ (d 0 = true → a.eval (.tmp 100) = .agg #[.int .i64 T, .int .i64 N', .int .i64 st, .slice RA nR rc]) ∧ (d 1 = true → a.eval (.tmp 101) = .agg #[.int .i64 S', .slice LA nL lc, .slice FA nf fc]) ∧ (d 3 = true → a.eval (.tmp 103) = .agg #[.int .i64 T, .int .i64 N', .int .i64 st, .slice RA nR rc]) ∧ (d 4 = true → a.eval (.tmp 104) = .agg #[.int .i64 (q : Int), .slice A1 nP cA1, .slice (some ⟨zg, 0, none⟩) q q]))
              ⟨rfl, rfl, rfl, rfl⟩ (fun a0 _ => ⟨Same.refl _ _, TB.start (Below.refl _ _).drew _ _ _ _, by simp, by simp, by simp, by simp⟩) ?_ ?_
            · intro a0 hF
              obtain ⟨hsz, f3, f4, f9⟩ := hF
              refine ⟨?_, ?_, ?_, ?_, ?_, ?_, ?_, ?_, ?_, ?_, trivial⟩
              · intro d a w9 K hd hdep ⟨hsm, htb, h100, h101, h103, h104⟩ hK
                have hz : a.tmps.size = 187 := hsm.sz.trans hsz
                have hd0 : d 0 = false := hd
                rw [if_pos (by rfl)]
                have zz : 100 < a.tmps.size := by rw [hz]; decide
                have t3 := tmps_of_eval ((hsm.ev 3 (by decide)).trans f3) (by rw [hz]; decide)
                obtain ⟨⟨q0, q1, q2, q3⟩, ⟨q4, q5, q6⟩, q7, q8, q9⟩ := H10.out w9 (HX11.out.trans (htb.bl.mono HX11.out.size))
                simp only [Oper.wp, execOp]
                go_simp
                show K (a.put (some 100) (.agg #[.int .i64 T, .int .i64 N', .int .i64 st, .slice RA nR rc])) _
                refine hK.out _ _ ⟨hsm.put (by decide) _, ?_, fun _ => eval_put_same zz, fun h => (eval_put_ne (by decide)).trans (h101 h), fun h => (eval_put_ne (by decide)).trans (h103 h), fun h => (eval_put_ne (by decide)).trans (h104 h)⟩
                rw [eval_put_ne (a := a) (d := 100) (k := 102) (by decide), eval_put_ne (a := a) (d := 100) (k := 105) (by decide), eval_put_ne (a := a) (d := 100) (k := 14) (by decide), eval_put_ne (a := a) (d := 100) (k := 15) (by decide)]
                exact htb
              · intro d a w9 K hd hdep ⟨hsm, htb, h100, h101, h103, h104⟩ hK
                have hz : a.tmps.size = 187 := hsm.sz.trans hsz
                have hd1 : d 1 = false := hd
                rw [if_pos (by rfl)]
                have zz : 101 < a.tmps.size := by rw [hz]; decide
                have t4 := tmps_of_eval ((hsm.ev 4 (by decide)).trans f4) (by rw [hz]; decide)
                obtain ⟨⟨q0, q1, q2, q3⟩, ⟨q4, q5, q6⟩, q7, q8, q9⟩ := H10.out w9 (HX11.out.trans (htb.bl.mono HX11.out.size))
                simp only [Oper.wp, execOp]
                go_simp
                show K (a.put (some 101) (.agg #[.int .i64 S', .slice LA nL lc, .slice FA nf fc])) _
                refine hK.out _ _ ⟨hsm.put (by decide) _, ?_, fun h => (eval_put_ne (by decide)).trans (h100 h), fun _ => eval_put_same zz, fun h => (eval_put_ne (by decide)).trans (h103 h), fun h => (eval_put_ne (by decide)).trans (h104 h)⟩
                rw [eval_put_ne (a := a) (d := 101) (k := 102) (by decide), eval_put_ne (a := a) (d := 101) (k := 105) (by decide), eval_put_ne (a := a) (d := 101) (k := 14) (by decide), eval_put_ne (a := a) (d := 101) (k := 15) (by decide)]
                exact htb
              · intro d a w9 K hd hdep ⟨hsm, htb, h100, h101, h103, h104⟩ hK
                have hz : a.tmps.size = 187 := hsm.sz.trans hsz
                have hd2 : d 2 = false := hd
                rw [if_pos (by rfl)]
                have zz : 102 < a.tmps.size := by rw [hz]; decide
                have d0 : d 0 = true := hdep ⟨0, .data⟩ (by simp) (by rfl)
                have d1 : d 1 = true := hdep ⟨1, .data⟩ (by simp) (by rfl)
                have t100 := tmps_of_eval (h100 d0) (by rw [hz]; decide)
                have t101 := tmps_of_eval (h101 d1) (by rw [hz]; decide)
                rw [hd2] at htb
                simp only [Oper.wp, execOp]
                go_simp
                with_reducible refine (HB1.out _ htb.bl).mono ?_
                rintro e8 w8 ⟨A, cc, cs, rfl, hr, hch, hb⟩
                show K (a.put (some 102) _) _
                refine hK.out _ _ ⟨hsm.put (by decide) _, ?_, fun h => (eval_put_ne (by decide)).trans (h100 h), fun h => (eval_put_ne (by decide)).trans (h101 h), fun h => (eval_put_ne (by decide)).trans (h103 h), fun h => (eval_put_ne (by decide)).trans (h104 h)⟩
                rw [eval_put_same (a := a) (d := 102) zz, eval_put_ne (a := a) (d := 102) (k := 105) (by decide), eval_put_ne (a := a) (d := 102) (k := 14) (by decide), eval_put_ne (a := a) (d := 102) (k := 15) (by decide)]
                exact htb.call1 HLA.out HLB.out ⟨A, cc, cs, rfl, hr, hch⟩ hb
              · intro d a w9 K hd hdep ⟨hsm, htb, h100, h101, h103, h104⟩ hK
                have hz : a.tmps.size = 187 := hsm.sz.trans hsz
                have hd3 : d 3 = false := hd
                rw [if_pos (by rfl)]
                have zz : 103 < a.tmps.size := by rw [hz]; decide
                have t3 := tmps_of_eval ((hsm.ev 3 (by decide)).trans f3) (by rw [hz]; decide)
                obtain ⟨⟨q0, q1, q2, q3⟩, ⟨q4, q5, q6⟩, q7, q8, q9⟩ := H10.out w9 (HX11.out.trans (htb.bl.mono HX11.out.size))
                simp only [Oper.wp, execOp]
                go_simp
                show K (a.put (some 103) (.agg #[.int .i64 T, .int .i64 N', .int .i64 st, .slice RA nR rc])) _
                refine hK.out _ _ ⟨hsm.put (by decide) _, ?_, fun h => (eval_put_ne (by decide)).trans (h100 h), fun h => (eval_put_ne (by decide)).trans (h101 h), fun _ => eval_put_same zz, fun h => (eval_put_ne (by decide)).trans (h104 h)⟩
                rw [eval_put_ne (a := a) (d := 103) (k := 102) (by decide), eval_put_ne (a := a) (d := 103) (k := 105) (by decide), eval_put_ne (a := a) (d := 103) (k := 14) (by decide), eval_put_ne (a := a) (d := 103) (k := 15) (by decide)]
                exact htb
              · intro d a w9 K hd hdep ⟨hsm, htb, h100, h101, h103, h104⟩ hK
                have hz : a.tmps.size = 187 := hsm.sz.trans hsz
                have hd4 : d 4 = false := hd
                rw [if_pos (by rfl)]
                have zz : 104 < a.tmps.size := by rw [hz]; decide
                have t9 := tmps_of_eval ((hsm.ev 9 (by decide)).trans f9) (by rw [hz]; decide)
                obtain ⟨⟨q0, q1, q2, q3⟩, ⟨q4, q5, q6⟩, q7, q8, q9⟩ := H10.out w9 (HX11.out.trans (htb.bl.mono HX11.out.size))
                simp only [Oper.wp, execOp]
                go_simp
                show K (a.put (some 104) (.agg #[.int .i64 (q : Int), .slice A1 nP cA1, .slice (some ⟨zg, 0, none⟩) q q])) _
                refine hK.out _ _ ⟨hsm.put (by decide) _, ?_, fun h => (eval_put_ne (by decide)).trans (h100 h), fun h => (eval_put_ne (by decide)).trans (h101 h), fun h => (eval_put_ne (by decide)).trans (h103 h), fun _ => eval_put_same zz⟩
                rw [eval_put_ne (a := a) (d := 104) (k := 102) (by decide), eval_put_ne (a := a) (d := 104) (k := 105) (by decide), eval_put_ne (a := a) (d := 104) (k := 14) (by decide), eval_put_ne (a := a) (d := 104) (k := 15) (by decide)]
                exact htb
              · intro d a w9 K hd hdep ⟨hsm, htb, h100, h101, h103, h104⟩ hK
                have hz : a.tmps.size = 187 := hsm.sz.trans hsz
                have hd5 : d 5 = false := hd
                rw [if_pos (by rfl)]
                have zz : 105 < a.tmps.size := by rw [hz]; decide
                have d3 : d 3 = true := hdep ⟨3, .data⟩ (by simp) (by rfl)
                have d4 : d 4 = true := hdep ⟨4, .data⟩ (by simp) (by rfl)
                have t103 := tmps_of_eval (h103 d3) (by rw [hz]; decide)
                have t104 := tmps_of_eval (h104 d4) (by rw [hz]; decide)
                rw [hd5] at htb
                simp only [Oper.wp, execOp]
                go_simp
                with_reducible refine (HB2.out _ htb.bl).mono ?_
                rintro e8 w8 ⟨A, cc, cs, rfl, hr, hch, hb⟩
                show K (a.put (some 105) _) _
                refine hK.out _ _ ⟨hsm.put (by decide) _, ?_, fun h => (eval_put_ne (by decide)).trans (h100 h), fun h => (eval_put_ne (by decide)).trans (h101 h), fun h => (eval_put_ne (by decide)).trans (h103 h), fun h => (eval_put_ne (by decide)).trans (h104 h)⟩
                rw [eval_put_ne (a := a) (d := 105) (k := 102) (by decide), eval_put_same (a := a) (d := 105) zz, eval_put_ne (a := a) (d := 105) (k := 14) (by decide), eval_put_ne (a := a) (d := 105) (k := 15) (by decide)]
                exact htb.call2 HLA.out HLB.out ⟨A, cc, cs, rfl, hr, hch⟩ hb
              · intro d a w9 K hd hdep ⟨hsm, htb, h100, h101, h103, h104⟩ hK
                have hz : a.tmps.size = 187 := hsm.sz.trans hsz
                have hd6 : d 6 = false := hd
                rw [if_pos (by rfl)]
                have zz : 14 < a.tmps.size := by rw [hz]; decide
                rw [hd6] at htb
                simp only [Oper.wp, execOp]
                go_simp
                show K (a.put (some 14) _) _
                refine hK.out _ _ ⟨hsm.put (by decide) _, ?_, fun h => (eval_put_ne (by decide)).trans (h100 h), fun h => (eval_put_ne (by decide)).trans (h101 h), fun h => (eval_put_ne (by decide)).trans (h103 h), fun h => (eval_put_ne (by decide)).trans (h104 h)⟩
                rw [eval_put_ne (a := a) (d := 14) (k := 102) (by decide), eval_put_ne (a := a) (d := 14) (k := 105) (by decide), eval_put_same (a := a) (d := 14) zz, eval_put_ne (a := a) (d := 14) (k := 15) (by decide)]
                exact htb.box1 HLA.out HLB.out
              · intro d a w9 K hd hdep ⟨hsm, htb, h100, h101, h103, h104⟩ hK
                have hz : a.tmps.size = 187 := hsm.sz.trans hsz
                have hd7 : d 7 = false := hd
                rw [if_pos (by rfl)]
                have zz : 15 < a.tmps.size := by rw [hz]; decide
                rw [hd7] at htb
                simp only [Oper.wp, execOp]
                go_simp
                show K (a.put (some 15) _) _
                refine hK.out _ _ ⟨hsm.put (by decide) _, ?_, fun h => (eval_put_ne (by decide)).trans (h100 h), fun h => (eval_put_ne (by decide)).trans (h101 h), fun h => (eval_put_ne (by decide)).trans (h103 h), fun h => (eval_put_ne (by decide)).trans (h104 h)⟩
                rw [eval_put_ne (a := a) (d := 15) (k := 102) (by decide), eval_put_ne (a := a) (d := 15) (k := 105) (by decide), eval_put_ne (a := a) (d := 15) (k := 14) (by decide), eval_put_same (a := a) (d := 15) zz]
                exact htb.box2 HLA.out HLB.out
              · intro d a w9 K hd hdep ⟨hsm, htb, h100, h101, h103, h104⟩ hK
                have hz : a.tmps.size = 187 := hsm.sz.trans hsz
                have hd8 : d 8 = false := hd
                rw [if_pos (by rfl)]
                have d2 : d 2 = true := hdep ⟨2, .data⟩ (by simp) (by rfl)
                have d6 : d 6 = true := hdep ⟨6, .data⟩ (by simp) (by rfl)
                rw [hd8, d6, d2] at htb
                obtain ⟨g, e1, hge, hbk, _⟩ := htb.b1 rfl
                obtain ⟨c, e2, hphi⟩ := htb.r1 rfl
                obtain ⟨A, cc, cs, rfl, hr, hch⟩ := hphi
                have K0 := hbk rfl
                have v0 := K0.cell 0
                have v1 := K0.cell 1
                have v2 := K0.cell 2
                have z0 := K0.frozen 0
                have z1 := K0.frozen 1
                have z2 := K0.frozen 2
                simp at v0 v1 v2
                simp only [Oper.wp, execOp, e1, e2]
                go_simp
                show K a _
                refine hK.out _ _ ⟨hsm, ?_, h100, h101, h103, h104⟩
                rw [show upd d (0 + 1 + 1 + 1 + 1 + 1 + 1 + 1 + 1) 8 = true from rfl, show upd d (0 + 1 + 1 + 1 + 1 + 1 + 1 + 1 + 1) 6 = true from d6, show upd d (0 + 1 + 1 + 1 + 1 + 1 + 1 + 1 + 1) 2 = true from d2, e1, e2]
                rw [e1, e2] at htb
                exact htb.put1 HLA.out HLB.out (K0.set3 _ _ _ ) (touch3 _ _ _ _ _ )
              · intro d a w9 K hd hdep ⟨hsm, htb, h100, h101, h103, h104⟩ hK
                have hz : a.tmps.size = 187 := hsm.sz.trans hsz
                have hd9 : d 9 = false := hd
                rw [if_pos (by rfl)]
                have d5 : d 5 = true := hdep ⟨5, .data⟩ (by simp) (by rfl)
                have d7 : d 7 = true := hdep ⟨7, .data⟩ (by simp) (by rfl)
                rw [hd9, d7, d5] at htb
                obtain ⟨g, e1, hge, hbk, _⟩ := htb.b2 rfl
                obtain ⟨c, e2, hphi⟩ := htb.r2 rfl
                obtain ⟨A, cc, cs, rfl, hr, hch⟩ := hphi
                have K0 := hbk rfl
                have v0 := K0.cell 0
                have v1 := K0.cell 1
                have v2 := K0.cell 2
                have z0 := K0.frozen 0
                have z1 := K0.frozen 1
                have z2 := K0.frozen 2
                simp at v0 v1 v2
                simp only [Oper.wp, execOp, e1, e2]
                go_simp
                show K a _
                refine hK.out _ _ ⟨hsm, ?_, h100, h101, h103, h104⟩
                rw [show upd d (0 + 1 + 1 + 1 + 1 + 1 + 1 + 1 + 1 + 1) 9 = true from rfl, show upd d (0 + 1 + 1 + 1 + 1 + 1 + 1 + 1 + 1 + 1) 7 = true from d7, show upd d (0 + 1 + 1 + 1 + 1 + 1 + 1 + 1 + 1 + 1) 5 = true from d5, e1, e2]
                rw [e1, e2] at htb
                exact htb.put2 HLA.out HLB.out (K0.set3 _ _ _ ) (touch3 _ _ _ _ _ )
            · intro d a w9 hd ⟨hsm, htb, h100, h101, h103, h104⟩
              have d0 : d 0 = true := hd 0 (by simp)
              have d1 : d 1 = true := hd 1 (by simp)
              have d2 : d 2 = true := hd 2 (by simp)
              have d3 : d 3 = true := hd 3 (by simp)
              have d4 : d 4 = true := hd 4 (by simp)
              have d5 : d 5 = true := hd 5 (by simp)
              have d6 : d 6 = true := hd 6 (by simp)
              have d7 : d 7 = true := hd 7 (by simp)
              have d8 : d 8 = true := hd 8 (by simp)
              have d9 : d 9 = true := hd 9 (by simp)
              rw [d2, d5, d6, d7, d8, d9] at htb
              obtain ⟨ga9, gb9, ca9, cb9, e1, e2, e3, e4, k1, k2, p1, p2, hne9, hg1, hg2, hb9⟩ := htb.done
              have ha := hsm.eq
              simp only [List.foldl_cons, List.foldl_nil] at ha
              rw [h100 d0, h101 d1, e3, h103 d3, h104 d4, e4, e1, e2] at ha
              clear hsm htb h100 h101 h103 h104 e1 e2 e3 e4 hd
              subst ha
              simp only [Act.put, List.setIfInBounds_toArray, List.set_cons_zero, List.set_cons_succ]
              obtain ⟨A, c, cs, rfl, ra, hca⟩ := p1
              obtain ⟨A', c', cs', rfl, rb, hcb⟩ := p2
              go_wp2_with fail
              go_meet
              exact ⟨ga9, gb9, A, c, cs, A', c', cs', rfl, rfl, k1, k2, ra, rb, hca, hcb, hb9⟩
          case rest =>
            obtain ⟨pa, pb, A, c, cs, A', c', ds, rfl, rfl, kpa, kpb, ra, rb, hch, hch', hbx⟩ := hcut
            rename World => wx
            have HKPA := Lib.hid kpa
            have HKPB := Lib.hid kpb
            have HRA := Lib.hid ra
            have HRB := Lib.hid rb
            have hb10 : Below w10.heap.size w10 wx := HX11.out.trans (hbx.mono HX11.out.size)
            have HXX : Hid (Below bn w wx) := HX10.out.trans (hb10.mono HSZ10.out)
            have HSX : Hid (bn ≤ wx.heap.size) := Nat.le_trans HSZ10.out hb10.size
            have HRX := Lib.hid ((HR10.out.below (hb10.mono HSZ10.out)))
            have HOX := Lib.hid ((HOp.out.below hb10).more hb10.size)
            have HPT : Hid (∀ h s t sf tf : Nat, h < N' → s ≤ t → t < q → s + f = sf → t + f = tf → ∃ x, atC N' q ds ⟨h, s, t⟩ = x ∧ atC N' S' cs ⟨h, sf, tf⟩ = x.sh (partK L f u nL) f R ∧ 0 ≤ x.a ∧ x.a ≤ (L.length + S' : Nat)) := by
              intro h s t sf tf h1 h2 h3 h4 h5
              have hd := hch'
              rw [← HLPE.out, ← HLL.out] at hd
              have h6 := part_at (u := u) HRO.out (by omega) hfd.2.1 HQ.out hch hd h1 h2 h3 h4 h5
              rw [HLL.out] at h6
              rw [HLL.out]
              exact h6
            have H20 : Hid (∀ w9, Below wx.heap.size wx w9 → (w9.cell? ⟨bn, 0, none⟩ = some (.int .i64 T) ∧ w9.cell? ⟨bn, 1, none⟩ = some (.int .i64 N') ∧ w9.cell? ⟨bn, 2, none⟩ = some (.int .i64 st) ∧ w9.cell? ⟨bn, 3, none⟩ = some (.slice RA nR rc)) ∧ (w9.cell? ⟨pa, 0, none⟩ = some (.int .i64 N') ∧ w9.cell? ⟨pa, 1, none⟩ = some (.int .i64 S') ∧ w9.cell? ⟨pa, 2, none⟩ = some (.slice A nc c) ∧ w9.cell? ⟨pb, 0, none⟩ = some (.int .i64 N') ∧ w9.cell? ⟨pb, 1, none⟩ = some (.int .i64 (q : Int)) ∧ w9.cell? ⟨pb, 2, none⟩ = some (.slice A' nd c'))) := fun w9 h => by
              have hb := HKPA.out.below h HKPA.out.lt
              have hb' := HKPB.out.below h HKPB.out.lt
              exact ⟨(H10.out _ (hb10.trans (h.mono hb10.size))).1, hb.cell 0, hb.cell 1, hb.cell 2, hb'.cell 0, hb'.cell 1, hb'.cell 2⟩
            have HRN := Lib.hid hfd
            have HNCB := Lib.hid (And.intro hncb hndb)
            clear kpa kpb ra rb hch hch' hbx hb10 HB1 HB2 HLA HLB hnc0 hnd0
            go_upto_region 20 with fail
            go_loopw [16] (fun q16 wr => ∃ s : Nat, s ≤ q ∧ q16 = .int .i64 s ∧ Hid (Below wx.heap.size wx wr)) (fun q16 _ => q - (intOf q16).toNat)
            case atStart => exact ⟨0, Nat.zero_le _, rfl, Lib.hid (Below.refl _ _)⟩
            case round =>
              obtain ⟨s, hs, rfl, HXs⟩ := hrel
              have uu := HU.out.1
              have us : IntKind.i64.wrap ((s : Int) + 1) = (s : Int) + 1 := IntWalk.i64_in _ (by omega)
              by_cases hsl : s ≤ r
              case neg =>
                have D1 : decide (s ≤ r) = false := by simp [hsl]
                have HAW := Lib.hid (awake_any wr (HG0.out _ (HXX.out.trans (HXs.out.mono HSX.out))))
                go_wp2_with fail
                refine HAW.out.mono ?_
                rintro e w6 ⟨rfl, hb6⟩
                have HX6 : Hid (Below bn w w6) := (HXX.out.trans (HXs.out.mono HSX.out)).trans (hb6.mono (Nat.le_trans HSX.out HXs.out.size))
                clear hb6
                go_wp2_with fail
                go_ret
                exact ⟨rfl, by rw [HBN.out]; exact HX6.out⟩
              case pos =>
              have D1 : decide (s ≤ r) = true := by simp [hsl]
              go_upto_region 23 with fail
              clear D1
              rename_i ws _
              go_loopw [17] (fun q17 wr => ∃ t : Nat, (s ≤ t ∧ t ≤ q) ∧ q17 = .int .i64 t ∧ Hid (Below wx.heap.size wx wr)) (fun q17 _ => q - (intOf q17).toNat)
              case atStart => exact ⟨s, ⟨Nat.le_refl _, by omega⟩, rfl, HXs⟩
              case round =>
                obtain ⟨t, htt, rfl, HXt⟩ := hrel
                clear HXs
                have ut : IntKind.i64.wrap ((t : Int) + 1) = (t : Int) + 1 := IntWalk.i64_in _ (by omega)
                by_cases htl : t ≤ r
                case neg =>
                  have D1 : decide (t ≤ r) = false := by simp [htl]
                  go_wp2_with fail
                  go_roundw
                  case rel => exact ⟨s + 1, by omega, by go_num, HXt⟩
                  case measure => simp [intOf]; omega
                case pos =>
                have D1 : decide (t ≤ r) = true := by simp [htl]
                go_upto_region 26 with fail
                clear D1
                go_loopw [18] (fun q18 wr => ∃ h : Nat, h ≤ N' ∧ q18 = .int .i64 h ∧ Hid (Below wx.heap.size wx wr)) (fun q18 _ => N' - (intOf q18).toNat)
                case atStart => exact ⟨0, Nat.zero_le _, rfl, HXt⟩
                case round =>
                  obtain ⟨h, hh, rfl, HXh⟩ := hrel
                  clear HXt
                  obtain ⟨⟨n0, n1, n2, n3⟩, _⟩ := H20.out _ HXh.out
                  have uh : IntKind.i64.wrap ((h : Int) + 1) = (h : Int) + 1 := IntWalk.i64_in _ (by omega)
                  by_cases hhl : h < N'
                  case neg =>
                    have D1 : decide (h < N') = false := by simp [hhl]
                    go_wp2_with fail
                    go_roundw
                    case rel => exact ⟨t + 1, by omega, by go_num, HXh⟩
                    case measure => simp [intOf]; omega
                  case pos =>
                  have D1 : decide (h < N') = true := by simp [hhl]
                  obtain ⟨sf, hsf⟩ : ∃ sf, s + f = sf := ⟨_, rfl⟩
                  obtain ⟨tf, htf⟩ : ∃ tf, t + f = tf := ⟨_, rfl⟩
                  obtain ⟨x, hx, hy, hx0, hx1⟩ := HPT.out h s t sf tf hhl htt.1 (by omega) hsf htf
                  have HAT1 : Hid (∀ w9, Below wr.heap.size wr w9 → Calls Tryd.prog 28 #[.agg #[.int .i64 N', .int .i64 (q : Int), .slice A' nd c'], .agg #[.int .i64 (h : Int), .int .i64 (s : Int), .int .i64 (t : Int)]] w9 fun e w' => e = .returned (.agg #[.int .i64 x.v.c, .int .i64 x.v.s, .int .i64 x.r, .int .i64 x.a]) ∧ Below w9.heap.size w9 w') := fun w9 h9 => by
                    have h10 : Below wx.heap.size wx w9 := HXh.out.trans (h9.mono HXh.out.size)
                    have h11 := at_any N' q nd c' wx.heap.size A' ds ⟨h, s, t⟩ w9 (HRB.out.below h10) h10.size (by omega) (by omega) (by omega) (HG0.out _ (HXX.out.trans (h10.mono HSX.out)))
                    rw [hx] at h11
                    exact h11
                  obtain ⟨z, hz⟩ : ∃ z, x.sh (partK L f u nL) f R = z := ⟨_, rfl⟩
                  rw [hz] at hy
                  have HAT2 : Hid (∀ w9, Below wr.heap.size wr w9 → Calls Tryd.prog 28 #[.agg #[.int .i64 N', .int .i64 S', .slice A nc c], .agg #[.int .i64 (h : Int), .int .i64 (sf : Int), .int .i64 (tf : Int)]] w9 fun e w' => e = .returned (.agg #[.int .i64 z.v.c, .int .i64 z.v.s, .int .i64 z.r, .int .i64 z.a]) ∧ Below w9.heap.size w9 w') := fun w9 h9 => by
                    have h10 : Below wx.heap.size wx w9 := HXh.out.trans (h9.mono HXh.out.size)
                    have h11 := at_any N' S' nc c wx.heap.size A cs ⟨h, sf, tf⟩ w9 (HRA.out.below h10) h10.size (by omega) (by omega) (by omega) (HG0.out _ (HXX.out.trans (h10.mono HSX.out)))
                    rw [hy] at h11
                    exact h11
                  have usf : IntKind.i64.wrap ((s : Int) + (f : Int)) = (sf : Int) := by rw [show (s : Int) + (f : Int) = (sf : Int) by omega]; exact IntWalk.i64_in _ (by omega)
                  have utf : IntKind.i64.wrap ((t : Int) + (f : Int)) = (tf : Int) := by rw [show (t : Int) + (f : Int) = (tf : Int) by omega]; exact IntWalk.i64_in _ (by omega)
                  have HUS := Lib.hid (And.intro usf utf)
                  have HZ9 := Lib.hid hz
                  have HX01 := Lib.hid (And.intro hx0 hx1)
                  go_upto_region 28 with fail
                  clear D1 n0 n1 n2 n3 hsf htf hx hy hx0 hx1 usf utf hz uh ut us uu
                  go_cut [19, 20] (fun x19 x20 wy => ∃ ga gb : Nat, x19 = .pointer (some ⟨ga, 0, none⟩) ∧ x20 = .pointer (some ⟨gb, 0, none⟩) ∧ Blk wy ga 47 #[.int .i64 x.v.c, .int .i64 x.v.s, .int .i64 x.r, .int .i64 x.a] ∧ Blk wy gb 47 #[.int .i64 z.v.c, .int .i64 z.v.s, .int .i64 z.r, .int .i64 z.a] ∧ ga ≠ gb ∧ wr.heap.size ≤ ga ∧ Below wr.heap.size wr wy)
                  case first =>
                    refine wp_region_steps (by kernel_rfl) (by kernel_rfl) (fun a0 => a0.tmps.size = 187 ∧ a0.eval (.tmp 7) = .int .i64 (f : Int) ∧ a0.eval (.tmp 14) = .pointer (some ⟨pa, 0, none⟩) ∧ a0.eval (.tmp 15) = .pointer (some ⟨pb, 0, none⟩) ∧ a0.eval (.tmp 16) = .int .i64 (s : Int) ∧ a0.eval (.tmp 17) = .int .i64 (t : Int) ∧ a0.eval (.tmp 18) = .int .i64 (h : Int))
                      (fun a0 d a w9 => Same a0 [127, 128, 129, 130, 131, 132, 133, 134, 135, 136, 137, 138, 139, 140, 141, 142, 19, 20] a ∧ TB wr w9 47 #[.int .i64 0, .int .i64 0, .int .i64 0, .int .i64 0] (ClPhi x) (ClPhi z) (d 5) (d 15) (d 16) (d 17) (d 18) (d 19) (a.eval (.tmp 132)) (a.eval (.tmp 142)) (a.eval (.tmp 19)) (a.eval (.tmp 20)) ∧ (d 0 = true → a.eval (.tmp 127) = .agg #[.int .i64 N', .int .i64 (q : Int), .slice A' nd c']) ∧ (d 1 = true → a.eval (.tmp 128) = .int .i64 (h : Int)) ∧ (d 2 = true → a.eval (.tmp 129) = .int .i64 (s : Int)) ∧ (d 3 = true → a.eval (.tmp 130) = .int .i64 (t : Int)) ∧ (d 4 = true → a.eval (.tmp 131) = .agg #[.int .i64 (h : Int), .int .i64 (s : Int), .int .i64 (t : Int)]) ∧ (d 6 = true → a.eval (.tmp 133) = .agg #[.int .i64 N', .int .i64 S', .slice A nc c]) ∧ (d 7 = true → a.eval (.tmp 134) = .int .i64 (h : Int)) ∧ (d 8 = true → a.eval (.tmp 135) = .int .i64 (s : Int)) ∧ (d 9 = true → a.eval (.tmp 136) = .int .i64 (f : Int)) ∧ (d 10 = true → a.eval (.tmp 137) = .int .i64 (sf : Int)) ∧ (d 11 = true → a.eval (.tmp 138) = .int .i64 (t : Int)) ∧ (d 12 = true → a.eval (.tmp 139) = .int .i64 (f : Int)) ∧ (d 13 = true → a.eval (.tmp 140) = .int .i64 (tf : Int)) ∧ (d 14 = true → a.eval (.tmp 141) = .agg #[.int .i64 (h : Int), .int .i64 (sf : Int), .int .i64 (tf : Int)]))
                      ⟨rfl, rfl, rfl, rfl, rfl, rfl, rfl⟩ (fun a0 _ => ⟨Same.refl _ _, TB.start (Below.refl _ _).drew _ _ _ _, by simp, by simp, by simp, by simp, by simp, by simp, by simp, by simp, by simp, by simp, by simp, by simp, by simp, by simp⟩) ?_ ?_
                    · intro a0 hF
                      obtain ⟨hsz, f7, f14, f15, f16, f17, f18⟩ := hF
                      refine ⟨?_, ?_, ?_, ?_, ?_, ?_, ?_, ?_, ?_, ?_, ?_, ?_, ?_, ?_, ?_, ?_, ?_, ?_, ?_, ?_, trivial⟩
                      · intro d a w9 K hd hdep ⟨hsm, htb, h127, h128, h129, h130, h131, h133, h134, h135, h136, h137, h138, h139, h140, h141⟩ hK
                        have hz : a.tmps.size = 187 := hsm.sz.trans hsz
                        have hd0 : d 0 = false := hd
                        rw [if_pos (by rfl)]
                        have zz : 127 < a.tmps.size := by rw [hz]; decide
                        have t15 := tmps_of_eval ((hsm.ev 15 (by decide)).trans f15) (by rw [hz]; decide)
                        obtain ⟨_, q0, q1, q2, q3, q4, q5⟩ := H20.out w9 (HXh.out.trans (htb.bl.mono HXh.out.size))
                        simp only [Oper.wp, execOp]
                        go_simp
                        show K (a.put (some 127) (.agg #[.int .i64 N', .int .i64 (q : Int), .slice A' nd c'])) _
                        refine hK.out _ _ ⟨hsm.put (by decide) _, ?_, fun _ => eval_put_same zz, fun h => (eval_put_ne (by decide)).trans (h128 h), fun h => (eval_put_ne (by decide)).trans (h129 h), fun h => (eval_put_ne (by decide)).trans (h130 h), fun h => (eval_put_ne (by decide)).trans (h131 h), fun h => (eval_put_ne (by decide)).trans (h133 h), fun h => (eval_put_ne (by decide)).trans (h134 h), fun h => (eval_put_ne (by decide)).trans (h135 h), fun h => (eval_put_ne (by decide)).trans (h136 h), fun h => (eval_put_ne (by decide)).trans (h137 h), fun h => (eval_put_ne (by decide)).trans (h138 h), fun h => (eval_put_ne (by decide)).trans (h139 h), fun h => (eval_put_ne (by decide)).trans (h140 h), fun h => (eval_put_ne (by decide)).trans (h141 h)⟩
                        rw [eval_put_ne (a := a) (d := 127) (k := 132) (by decide), eval_put_ne (a := a) (d := 127) (k := 142) (by decide), eval_put_ne (a := a) (d := 127) (k := 19) (by decide), eval_put_ne (a := a) (d := 127) (k := 20) (by decide)]
                        exact htb
                      · intro d a w9 K hd hdep ⟨hsm, htb, h127, h128, h129, h130, h131, h133, h134, h135, h136, h137, h138, h139, h140, h141⟩ hK
                        have hz : a.tmps.size = 187 := hsm.sz.trans hsz
                        have hd1 : d 1 = false := hd
                        rw [if_pos (by rfl)]
                        have zz : 128 < a.tmps.size := by rw [hz]; decide
                        have t18 := tmps_of_eval ((hsm.ev 18 (by decide)).trans f18) (by rw [hz]; decide)
                        simp only [Oper.wp, execOp]
                        go_simp
                        show K (a.put (some 128) (.int .i64 (h : Int))) _
                        refine hK.out _ _ ⟨hsm.put (by decide) _, ?_, fun h => (eval_put_ne (by decide)).trans (h127 h), fun _ => eval_put_same zz, fun h => (eval_put_ne (by decide)).trans (h129 h), fun h => (eval_put_ne (by decide)).trans (h130 h), fun h => (eval_put_ne (by decide)).trans (h131 h), fun h => (eval_put_ne (by decide)).trans (h133 h), fun h => (eval_put_ne (by decide)).trans (h134 h), fun h => (eval_put_ne (by decide)).trans (h135 h), fun h => (eval_put_ne (by decide)).trans (h136 h), fun h => (eval_put_ne (by decide)).trans (h137 h), fun h => (eval_put_ne (by decide)).trans (h138 h), fun h => (eval_put_ne (by decide)).trans (h139 h), fun h => (eval_put_ne (by decide)).trans (h140 h), fun h => (eval_put_ne (by decide)).trans (h141 h)⟩
                        rw [eval_put_ne (a := a) (d := 128) (k := 132) (by decide), eval_put_ne (a := a) (d := 128) (k := 142) (by decide), eval_put_ne (a := a) (d := 128) (k := 19) (by decide), eval_put_ne (a := a) (d := 128) (k := 20) (by decide)]
                        exact htb
                      · intro d a w9 K hd hdep ⟨hsm, htb, h127, h128, h129, h130, h131, h133, h134, h135, h136, h137, h138, h139, h140, h141⟩ hK
                        have hz : a.tmps.size = 187 := hsm.sz.trans hsz
                        have hd2 : d 2 = false := hd
                        rw [if_pos (by rfl)]
                        have zz : 129 < a.tmps.size := by rw [hz]; decide
                        have t16 := tmps_of_eval ((hsm.ev 16 (by decide)).trans f16) (by rw [hz]; decide)
                        simp only [Oper.wp, execOp]
                        go_simp
                        show K (a.put (some 129) (.int .i64 (s : Int))) _
                        refine hK.out _ _ ⟨hsm.put (by decide) _, ?_, fun h => (eval_put_ne (by decide)).trans (h127 h), fun h => (eval_put_ne (by decide)).trans (h128 h), fun _ => eval_put_same zz, fun h => (eval_put_ne (by decide)).trans (h130 h), fun h => (eval_put_ne (by decide)).trans (h131 h), fun h => (eval_put_ne (by decide)).trans (h133 h), fun h => (eval_put_ne (by decide)).trans (h134 h), fun h => (eval_put_ne (by decide)).trans (h135 h), fun h => (eval_put_ne (by decide)).trans (h136 h), fun h => (eval_put_ne (by decide)).trans (h137 h), fun h => (eval_put_ne (by decide)).trans (h138 h), fun h => (eval_put_ne (by decide)).trans (h139 h), fun h => (eval_put_ne (by decide)).trans (h140 h), fun h => (eval_put_ne (by decide)).trans (h141 h)⟩
                        rw [eval_put_ne (a := a) (d := 129) (k := 132) (by decide), eval_put_ne (a := a) (d := 129) (k := 142) (by decide), eval_put_ne (a := a) (d := 129) (k := 19) (by decide), eval_put_ne (a := a) (d := 129) (k := 20) (by decide)]
                        exact htb
                      · intro d a w9 K hd hdep ⟨hsm, htb, h127, h128, h129, h130, h131, h133, h134, h135, h136, h137, h138, h139, h140, h141⟩ hK
                        have hz : a.tmps.size = 187 := hsm.sz.trans hsz
                        have hd3 : d 3 = false := hd
                        rw [if_pos (by rfl)]
                        have zz : 130 < a.tmps.size := by rw [hz]; decide
                        have t17 := tmps_of_eval ((hsm.ev 17 (by decide)).trans f17) (by rw [hz]; decide)
                        simp only [Oper.wp, execOp]
                        go_simp
                        show K (a.put (some 130) (.int .i64 (t : Int))) _
                        refine hK.out _ _ ⟨hsm.put (by decide) _, ?_, fun h => (eval_put_ne (by decide)).trans (h127 h), fun h => (eval_put_ne (by decide)).trans (h128 h), fun h => (eval_put_ne (by decide)).trans (h129 h), fun _ => eval_put_same zz, fun h => (eval_put_ne (by decide)).trans (h131 h), fun h => (eval_put_ne (by decide)).trans (h133 h), fun h => (eval_put_ne (by decide)).trans (h134 h), fun h => (eval_put_ne (by decide)).trans (h135 h), fun h => (eval_put_ne (by decide)).trans (h136 h), fun h => (eval_put_ne (by decide)).trans (h137 h), fun h => (eval_put_ne (by decide)).trans (h138 h), fun h => (eval_put_ne (by decide)).trans (h139 h), fun h => (eval_put_ne (by decide)).trans (h140 h), fun h => (eval_put_ne (by decide)).trans (h141 h)⟩
                        rw [eval_put_ne (a := a) (d := 130) (k := 132) (by decide), eval_put_ne (a := a) (d := 130) (k := 142) (by decide), eval_put_ne (a := a) (d := 130) (k := 19) (by decide), eval_put_ne (a := a) (d := 130) (k := 20) (by decide)]
                        exact htb
                      · intro d a w9 K hd hdep ⟨hsm, htb, h127, h128, h129, h130, h131, h133, h134, h135, h136, h137, h138, h139, h140, h141⟩ hK
                        have hz : a.tmps.size = 187 := hsm.sz.trans hsz
                        have hd4 : d 4 = false := hd
                        rw [if_pos (by rfl)]
                        have zz : 131 < a.tmps.size := by rw [hz]; decide
                        have d1 : d 1 = true := hdep ⟨1, .data⟩ (by simp) (by rfl)
                        have d2 : d 2 = true := hdep ⟨2, .data⟩ (by simp) (by rfl)
                        have d3 : d 3 = true := hdep ⟨3, .data⟩ (by simp) (by rfl)
                        have t128 := tmps_of_eval (h128 d1) (by rw [hz]; decide)
                        have t129 := tmps_of_eval (h129 d2) (by rw [hz]; decide)
                        have t130 := tmps_of_eval (h130 d3) (by rw [hz]; decide)
                        simp only [Oper.wp, execOp]
                        go_simp
                        show K (a.put (some 131) (.agg #[.int .i64 (h : Int), .int .i64 (s : Int), .int .i64 (t : Int)])) _
                        refine hK.out _ _ ⟨hsm.put (by decide) _, ?_, fun h => (eval_put_ne (by decide)).trans (h127 h), fun h => (eval_put_ne (by decide)).trans (h128 h), fun h => (eval_put_ne (by decide)).trans (h129 h), fun h => (eval_put_ne (by decide)).trans (h130 h), fun _ => eval_put_same zz, fun h => (eval_put_ne (by decide)).trans (h133 h), fun h => (eval_put_ne (by decide)).trans (h134 h), fun h => (eval_put_ne (by decide)).trans (h135 h), fun h => (eval_put_ne (by decide)).trans (h136 h), fun h => (eval_put_ne (by decide)).trans (h137 h), fun h => (eval_put_ne (by decide)).trans (h138 h), fun h => (eval_put_ne (by decide)).trans (h139 h), fun h => (eval_put_ne (by decide)).trans (h140 h), fun h => (eval_put_ne (by decide)).trans (h141 h)⟩
                        rw [eval_put_ne (a := a) (d := 131) (k := 132) (by decide), eval_put_ne (a := a) (d := 131) (k := 142) (by decide), eval_put_ne (a := a) (d := 131) (k := 19) (by decide), eval_put_ne (a := a) (d := 131) (k := 20) (by decide)]
                        exact htb
                      · intro d a w9 K hd hdep ⟨hsm, htb, h127, h128, h129, h130, h131, h133, h134, h135, h136, h137, h138, h139, h140, h141⟩ hK
                        have hz : a.tmps.size = 187 := hsm.sz.trans hsz
                        have hd5 : d 5 = false := hd
                        rw [if_pos (by rfl)]
                        have zz : 132 < a.tmps.size := by rw [hz]; decide
                        have d0 : d 0 = true := hdep ⟨0, .data⟩ (by simp) (by rfl)
                        have d4 : d 4 = true := hdep ⟨4, .data⟩ (by simp) (by rfl)
                        have t127 := tmps_of_eval (h127 d0) (by rw [hz]; decide)
                        have t131 := tmps_of_eval (h131 d4) (by rw [hz]; decide)
                        rw [hd5] at htb
                        simp only [Oper.wp, execOp]
                        go_simp
                        with_reducible refine (HAT1.out _ htb.bl).mono ?_
                        rintro e8 w8 ⟨rfl, hb⟩
                        show K (a.put (some 132) _) _
                        refine hK.out _ _ ⟨hsm.put (by decide) _, ?_, fun h => (eval_put_ne (by decide)).trans (h127 h), fun h => (eval_put_ne (by decide)).trans (h128 h), fun h => (eval_put_ne (by decide)).trans (h129 h), fun h => (eval_put_ne (by decide)).trans (h130 h), fun h => (eval_put_ne (by decide)).trans (h131 h), fun h => (eval_put_ne (by decide)).trans (h133 h), fun h => (eval_put_ne (by decide)).trans (h134 h), fun h => (eval_put_ne (by decide)).trans (h135 h), fun h => (eval_put_ne (by decide)).trans (h136 h), fun h => (eval_put_ne (by decide)).trans (h137 h), fun h => (eval_put_ne (by decide)).trans (h138 h), fun h => (eval_put_ne (by decide)).trans (h139 h), fun h => (eval_put_ne (by decide)).trans (h140 h), fun h => (eval_put_ne (by decide)).trans (h141 h)⟩
                        rw [eval_put_same (a := a) (d := 132) zz, eval_put_ne (a := a) (d := 132) (k := 142) (by decide), eval_put_ne (a := a) (d := 132) (k := 19) (by decide), eval_put_ne (a := a) (d := 132) (k := 20) (by decide)]
                        exact htb.call1 (clPhi_lasts _ ()) (clPhi_lasts _ ()) rfl hb
                      · intro d a w9 K hd hdep ⟨hsm, htb, h127, h128, h129, h130, h131, h133, h134, h135, h136, h137, h138, h139, h140, h141⟩ hK
                        have hz : a.tmps.size = 187 := hsm.sz.trans hsz
                        have hd6 : d 6 = false := hd
                        rw [if_pos (by rfl)]
                        have zz : 133 < a.tmps.size := by rw [hz]; decide
                        have t14 := tmps_of_eval ((hsm.ev 14 (by decide)).trans f14) (by rw [hz]; decide)
                        obtain ⟨_, q0, q1, q2, q3, q4, q5⟩ := H20.out w9 (HXh.out.trans (htb.bl.mono HXh.out.size))
                        simp only [Oper.wp, execOp]
                        go_simp
                        show K (a.put (some 133) (.agg #[.int .i64 N', .int .i64 S', .slice A nc c])) _
                        refine hK.out _ _ ⟨hsm.put (by decide) _, ?_, fun h => (eval_put_ne (by decide)).trans (h127 h), fun h => (eval_put_ne (by decide)).trans (h128 h), fun h => (eval_put_ne (by decide)).trans (h129 h), fun h => (eval_put_ne (by decide)).trans (h130 h), fun h => (eval_put_ne (by decide)).trans (h131 h), fun _ => eval_put_same zz, fun h => (eval_put_ne (by decide)).trans (h134 h), fun h => (eval_put_ne (by decide)).trans (h135 h), fun h => (eval_put_ne (by decide)).trans (h136 h), fun h => (eval_put_ne (by decide)).trans (h137 h), fun h => (eval_put_ne (by decide)).trans (h138 h), fun h => (eval_put_ne (by decide)).trans (h139 h), fun h => (eval_put_ne (by decide)).trans (h140 h), fun h => (eval_put_ne (by decide)).trans (h141 h)⟩
                        rw [eval_put_ne (a := a) (d := 133) (k := 132) (by decide), eval_put_ne (a := a) (d := 133) (k := 142) (by decide), eval_put_ne (a := a) (d := 133) (k := 19) (by decide), eval_put_ne (a := a) (d := 133) (k := 20) (by decide)]
                        exact htb
                      · intro d a w9 K hd hdep ⟨hsm, htb, h127, h128, h129, h130, h131, h133, h134, h135, h136, h137, h138, h139, h140, h141⟩ hK
                        have hz : a.tmps.size = 187 := hsm.sz.trans hsz
                        have hd7 : d 7 = false := hd
                        rw [if_pos (by rfl)]
                        have zz : 134 < a.tmps.size := by rw [hz]; decide
                        have t18 := tmps_of_eval ((hsm.ev 18 (by decide)).trans f18) (by rw [hz]; decide)
                        simp only [Oper.wp, execOp]
                        go_simp
                        show K (a.put (some 134) (.int .i64 (h : Int))) _
                        refine hK.out _ _ ⟨hsm.put (by decide) _, ?_, fun h => (eval_put_ne (by decide)).trans (h127 h), fun h => (eval_put_ne (by decide)).trans (h128 h), fun h => (eval_put_ne (by decide)).trans (h129 h), fun h => (eval_put_ne (by decide)).trans (h130 h), fun h => (eval_put_ne (by decide)).trans (h131 h), fun h => (eval_put_ne (by decide)).trans (h133 h), fun _ => eval_put_same zz, fun h => (eval_put_ne (by decide)).trans (h135 h), fun h => (eval_put_ne (by decide)).trans (h136 h), fun h => (eval_put_ne (by decide)).trans (h137 h), fun h => (eval_put_ne (by decide)).trans (h138 h), fun h => (eval_put_ne (by decide)).trans (h139 h), fun h => (eval_put_ne (by decide)).trans (h140 h), fun h => (eval_put_ne (by decide)).trans (h141 h)⟩
                        rw [eval_put_ne (a := a) (d := 134) (k := 132) (by decide), eval_put_ne (a := a) (d := 134) (k := 142) (by decide), eval_put_ne (a := a) (d := 134) (k := 19) (by decide), eval_put_ne (a := a) (d := 134) (k := 20) (by decide)]
                        exact htb
                      · intro d a w9 K hd hdep ⟨hsm, htb, h127, h128, h129, h130, h131, h133, h134, h135, h136, h137, h138, h139, h140, h141⟩ hK
                        have hz : a.tmps.size = 187 := hsm.sz.trans hsz
                        have hd8 : d 8 = false := hd
                        rw [if_pos (by rfl)]
                        have zz : 135 < a.tmps.size := by rw [hz]; decide
                        have t16 := tmps_of_eval ((hsm.ev 16 (by decide)).trans f16) (by rw [hz]; decide)
                        simp only [Oper.wp, execOp]
                        go_simp
                        show K (a.put (some 135) (.int .i64 (s : Int))) _
                        refine hK.out _ _ ⟨hsm.put (by decide) _, ?_, fun h => (eval_put_ne (by decide)).trans (h127 h), fun h => (eval_put_ne (by decide)).trans (h128 h), fun h => (eval_put_ne (by decide)).trans (h129 h), fun h => (eval_put_ne (by decide)).trans (h130 h), fun h => (eval_put_ne (by decide)).trans (h131 h), fun h => (eval_put_ne (by decide)).trans (h133 h), fun h => (eval_put_ne (by decide)).trans (h134 h), fun _ => eval_put_same zz, fun h => (eval_put_ne (by decide)).trans (h136 h), fun h => (eval_put_ne (by decide)).trans (h137 h), fun h => (eval_put_ne (by decide)).trans (h138 h), fun h => (eval_put_ne (by decide)).trans (h139 h), fun h => (eval_put_ne (by decide)).trans (h140 h), fun h => (eval_put_ne (by decide)).trans (h141 h)⟩
                        rw [eval_put_ne (a := a) (d := 135) (k := 132) (by decide), eval_put_ne (a := a) (d := 135) (k := 142) (by decide), eval_put_ne (a := a) (d := 135) (k := 19) (by decide), eval_put_ne (a := a) (d := 135) (k := 20) (by decide)]
                        exact htb
                      · intro d a w9 K hd hdep ⟨hsm, htb, h127, h128, h129, h130, h131, h133, h134, h135, h136, h137, h138, h139, h140, h141⟩ hK
                        have hz : a.tmps.size = 187 := hsm.sz.trans hsz
                        have hd9 : d 9 = false := hd
                        rw [if_pos (by rfl)]
                        have zz : 136 < a.tmps.size := by rw [hz]; decide
                        have t7 := tmps_of_eval ((hsm.ev 7 (by decide)).trans f7) (by rw [hz]; decide)
                        simp only [Oper.wp, execOp]
                        go_simp
                        show K (a.put (some 136) (.int .i64 (f : Int))) _
                        refine hK.out _ _ ⟨hsm.put (by decide) _, ?_, fun h => (eval_put_ne (by decide)).trans (h127 h), fun h => (eval_put_ne (by decide)).trans (h128 h), fun h => (eval_put_ne (by decide)).trans (h129 h), fun h => (eval_put_ne (by decide)).trans (h130 h), fun h => (eval_put_ne (by decide)).trans (h131 h), fun h => (eval_put_ne (by decide)).trans (h133 h), fun h => (eval_put_ne (by decide)).trans (h134 h), fun h => (eval_put_ne (by decide)).trans (h135 h), fun _ => eval_put_same zz, fun h => (eval_put_ne (by decide)).trans (h137 h), fun h => (eval_put_ne (by decide)).trans (h138 h), fun h => (eval_put_ne (by decide)).trans (h139 h), fun h => (eval_put_ne (by decide)).trans (h140 h), fun h => (eval_put_ne (by decide)).trans (h141 h)⟩
                        rw [eval_put_ne (a := a) (d := 136) (k := 132) (by decide), eval_put_ne (a := a) (d := 136) (k := 142) (by decide), eval_put_ne (a := a) (d := 136) (k := 19) (by decide), eval_put_ne (a := a) (d := 136) (k := 20) (by decide)]
                        exact htb
                      · intro d a w9 K hd hdep ⟨hsm, htb, h127, h128, h129, h130, h131, h133, h134, h135, h136, h137, h138, h139, h140, h141⟩ hK
                        have hz : a.tmps.size = 187 := hsm.sz.trans hsz
                        have hd10 : d 10 = false := hd
                        rw [if_pos (by rfl)]
                        have zz : 137 < a.tmps.size := by rw [hz]; decide
                        have d8 : d 8 = true := hdep ⟨8, .data⟩ (by simp) (by rfl)
                        have d9 : d 9 = true := hdep ⟨9, .data⟩ (by simp) (by rfl)
                        have t135 := tmps_of_eval (h135 d8) (by rw [hz]; decide)
                        have t136 := tmps_of_eval (h136 d9) (by rw [hz]; decide)
                        have us := HUS.out.1
                        simp only [Oper.wp, execOp]
                        go_simp
                        show K (a.put (some 137) (.int .i64 (sf : Int))) _
                        refine hK.out _ _ ⟨hsm.put (by decide) _, ?_, fun h => (eval_put_ne (by decide)).trans (h127 h), fun h => (eval_put_ne (by decide)).trans (h128 h), fun h => (eval_put_ne (by decide)).trans (h129 h), fun h => (eval_put_ne (by decide)).trans (h130 h), fun h => (eval_put_ne (by decide)).trans (h131 h), fun h => (eval_put_ne (by decide)).trans (h133 h), fun h => (eval_put_ne (by decide)).trans (h134 h), fun h => (eval_put_ne (by decide)).trans (h135 h), fun h => (eval_put_ne (by decide)).trans (h136 h), fun _ => eval_put_same zz, fun h => (eval_put_ne (by decide)).trans (h138 h), fun h => (eval_put_ne (by decide)).trans (h139 h), fun h => (eval_put_ne (by decide)).trans (h140 h), fun h => (eval_put_ne (by decide)).trans (h141 h)⟩
                        rw [eval_put_ne (a := a) (d := 137) (k := 132) (by decide), eval_put_ne (a := a) (d := 137) (k := 142) (by decide), eval_put_ne (a := a) (d := 137) (k := 19) (by decide), eval_put_ne (a := a) (d := 137) (k := 20) (by decide)]
                        exact htb
                      · intro d a w9 K hd hdep ⟨hsm, htb, h127, h128, h129, h130, h131, h133, h134, h135, h136, h137, h138, h139, h140, h141⟩ hK
                        have hz : a.tmps.size = 187 := hsm.sz.trans hsz
                        have hd11 : d 11 = false := hd
                        rw [if_pos (by rfl)]
                        have zz : 138 < a.tmps.size := by rw [hz]; decide
                        have t17 := tmps_of_eval ((hsm.ev 17 (by decide)).trans f17) (by rw [hz]; decide)
                        simp only [Oper.wp, execOp]
                        go_simp
                        show K (a.put (some 138) (.int .i64 (t : Int))) _
                        refine hK.out _ _ ⟨hsm.put (by decide) _, ?_, fun h => (eval_put_ne (by decide)).trans (h127 h), fun h => (eval_put_ne (by decide)).trans (h128 h), fun h => (eval_put_ne (by decide)).trans (h129 h), fun h => (eval_put_ne (by decide)).trans (h130 h), fun h => (eval_put_ne (by decide)).trans (h131 h), fun h => (eval_put_ne (by decide)).trans (h133 h), fun h => (eval_put_ne (by decide)).trans (h134 h), fun h => (eval_put_ne (by decide)).trans (h135 h), fun h => (eval_put_ne (by decide)).trans (h136 h), fun h => (eval_put_ne (by decide)).trans (h137 h), fun _ => eval_put_same zz, fun h => (eval_put_ne (by decide)).trans (h139 h), fun h => (eval_put_ne (by decide)).trans (h140 h), fun h => (eval_put_ne (by decide)).trans (h141 h)⟩
                        rw [eval_put_ne (a := a) (d := 138) (k := 132) (by decide), eval_put_ne (a := a) (d := 138) (k := 142) (by decide), eval_put_ne (a := a) (d := 138) (k := 19) (by decide), eval_put_ne (a := a) (d := 138) (k := 20) (by decide)]
                        exact htb
                      · intro d a w9 K hd hdep ⟨hsm, htb, h127, h128, h129, h130, h131, h133, h134, h135, h136, h137, h138, h139, h140, h141⟩ hK
                        have hz : a.tmps.size = 187 := hsm.sz.trans hsz
                        have hd12 : d 12 = false := hd
                        rw [if_pos (by rfl)]
                        have zz : 139 < a.tmps.size := by rw [hz]; decide
                        have t7 := tmps_of_eval ((hsm.ev 7 (by decide)).trans f7) (by rw [hz]; decide)
                        simp only [Oper.wp, execOp]
                        go_simp
                        show K (a.put (some 139) (.int .i64 (f : Int))) _
                        refine hK.out _ _ ⟨hsm.put (by decide) _, ?_, fun h => (eval_put_ne (by decide)).trans (h127 h), fun h => (eval_put_ne (by decide)).trans (h128 h), fun h => (eval_put_ne (by decide)).trans (h129 h), fun h => (eval_put_ne (by decide)).trans (h130 h), fun h => (eval_put_ne (by decide)).trans (h131 h), fun h => (eval_put_ne (by decide)).trans (h133 h), fun h => (eval_put_ne (by decide)).trans (h134 h), fun h => (eval_put_ne (by decide)).trans (h135 h), fun h => (eval_put_ne (by decide)).trans (h136 h), fun h => (eval_put_ne (by decide)).trans (h137 h), fun h => (eval_put_ne (by decide)).trans (h138 h), fun _ => eval_put_same zz, fun h => (eval_put_ne (by decide)).trans (h140 h), fun h => (eval_put_ne (by decide)).trans (h141 h)⟩
                        rw [eval_put_ne (a := a) (d := 139) (k := 132) (by decide), eval_put_ne (a := a) (d := 139) (k := 142) (by decide), eval_put_ne (a := a) (d := 139) (k := 19) (by decide), eval_put_ne (a := a) (d := 139) (k := 20) (by decide)]
                        exact htb
                      · intro d a w9 K hd hdep ⟨hsm, htb, h127, h128, h129, h130, h131, h133, h134, h135, h136, h137, h138, h139, h140, h141⟩ hK
                        have hz : a.tmps.size = 187 := hsm.sz.trans hsz
                        have hd13 : d 13 = false := hd
                        rw [if_pos (by rfl)]
                        have zz : 140 < a.tmps.size := by rw [hz]; decide
                        have d11 : d 11 = true := hdep ⟨11, .data⟩ (by simp) (by rfl)
                        have d12 : d 12 = true := hdep ⟨12, .data⟩ (by simp) (by rfl)
                        have t138 := tmps_of_eval (h138 d11) (by rw [hz]; decide)
                        have t139 := tmps_of_eval (h139 d12) (by rw [hz]; decide)
                        have ut := HUS.out.2
                        simp only [Oper.wp, execOp]
                        go_simp
                        show K (a.put (some 140) (.int .i64 (tf : Int))) _
                        refine hK.out _ _ ⟨hsm.put (by decide) _, ?_, fun h => (eval_put_ne (by decide)).trans (h127 h), fun h => (eval_put_ne (by decide)).trans (h128 h), fun h => (eval_put_ne (by decide)).trans (h129 h), fun h => (eval_put_ne (by decide)).trans (h130 h), fun h => (eval_put_ne (by decide)).trans (h131 h), fun h => (eval_put_ne (by decide)).trans (h133 h), fun h => (eval_put_ne (by decide)).trans (h134 h), fun h => (eval_put_ne (by decide)).trans (h135 h), fun h => (eval_put_ne (by decide)).trans (h136 h), fun h => (eval_put_ne (by decide)).trans (h137 h), fun h => (eval_put_ne (by decide)).trans (h138 h), fun h => (eval_put_ne (by decide)).trans (h139 h), fun _ => eval_put_same zz, fun h => (eval_put_ne (by decide)).trans (h141 h)⟩
                        rw [eval_put_ne (a := a) (d := 140) (k := 132) (by decide), eval_put_ne (a := a) (d := 140) (k := 142) (by decide), eval_put_ne (a := a) (d := 140) (k := 19) (by decide), eval_put_ne (a := a) (d := 140) (k := 20) (by decide)]
                        exact htb
                      · intro d a w9 K hd hdep ⟨hsm, htb, h127, h128, h129, h130, h131, h133, h134, h135, h136, h137, h138, h139, h140, h141⟩ hK
                        have hz : a.tmps.size = 187 := hsm.sz.trans hsz
                        have hd14 : d 14 = false := hd
                        rw [if_pos (by rfl)]
                        have zz : 141 < a.tmps.size := by rw [hz]; decide
                        have d7 : d 7 = true := hdep ⟨7, .data⟩ (by simp) (by rfl)
                        have d10 : d 10 = true := hdep ⟨10, .data⟩ (by simp) (by rfl)
                        have d13 : d 13 = true := hdep ⟨13, .data⟩ (by simp) (by rfl)
                        have t134 := tmps_of_eval (h134 d7) (by rw [hz]; decide)
                        have t137 := tmps_of_eval (h137 d10) (by rw [hz]; decide)
                        have t140 := tmps_of_eval (h140 d13) (by rw [hz]; decide)
                        simp only [Oper.wp, execOp]
                        go_simp
                        show K (a.put (some 141) (.agg #[.int .i64 (h : Int), .int .i64 (sf : Int), .int .i64 (tf : Int)])) _
                        refine hK.out _ _ ⟨hsm.put (by decide) _, ?_, fun h => (eval_put_ne (by decide)).trans (h127 h), fun h => (eval_put_ne (by decide)).trans (h128 h), fun h => (eval_put_ne (by decide)).trans (h129 h), fun h => (eval_put_ne (by decide)).trans (h130 h), fun h => (eval_put_ne (by decide)).trans (h131 h), fun h => (eval_put_ne (by decide)).trans (h133 h), fun h => (eval_put_ne (by decide)).trans (h134 h), fun h => (eval_put_ne (by decide)).trans (h135 h), fun h => (eval_put_ne (by decide)).trans (h136 h), fun h => (eval_put_ne (by decide)).trans (h137 h), fun h => (eval_put_ne (by decide)).trans (h138 h), fun h => (eval_put_ne (by decide)).trans (h139 h), fun h => (eval_put_ne (by decide)).trans (h140 h), fun _ => eval_put_same zz⟩
                        rw [eval_put_ne (a := a) (d := 141) (k := 132) (by decide), eval_put_ne (a := a) (d := 141) (k := 142) (by decide), eval_put_ne (a := a) (d := 141) (k := 19) (by decide), eval_put_ne (a := a) (d := 141) (k := 20) (by decide)]
                        exact htb
                      · intro d a w9 K hd hdep ⟨hsm, htb, h127, h128, h129, h130, h131, h133, h134, h135, h136, h137, h138, h139, h140, h141⟩ hK
                        have hz : a.tmps.size = 187 := hsm.sz.trans hsz
                        have hd15 : d 15 = false := hd
                        rw [if_pos (by rfl)]
                        have zz : 142 < a.tmps.size := by rw [hz]; decide
                        have d6 : d 6 = true := hdep ⟨6, .data⟩ (by simp) (by rfl)
                        have d14 : d 14 = true := hdep ⟨14, .data⟩ (by simp) (by rfl)
                        have t133 := tmps_of_eval (h133 d6) (by rw [hz]; decide)
                        have t141 := tmps_of_eval (h141 d14) (by rw [hz]; decide)
                        rw [hd15] at htb
                        simp only [Oper.wp, execOp]
                        go_simp
                        with_reducible refine (HAT2.out _ htb.bl).mono ?_
                        rintro e8 w8 ⟨rfl, hb⟩
                        show K (a.put (some 142) _) _
                        refine hK.out _ _ ⟨hsm.put (by decide) _, ?_, fun h => (eval_put_ne (by decide)).trans (h127 h), fun h => (eval_put_ne (by decide)).trans (h128 h), fun h => (eval_put_ne (by decide)).trans (h129 h), fun h => (eval_put_ne (by decide)).trans (h130 h), fun h => (eval_put_ne (by decide)).trans (h131 h), fun h => (eval_put_ne (by decide)).trans (h133 h), fun h => (eval_put_ne (by decide)).trans (h134 h), fun h => (eval_put_ne (by decide)).trans (h135 h), fun h => (eval_put_ne (by decide)).trans (h136 h), fun h => (eval_put_ne (by decide)).trans (h137 h), fun h => (eval_put_ne (by decide)).trans (h138 h), fun h => (eval_put_ne (by decide)).trans (h139 h), fun h => (eval_put_ne (by decide)).trans (h140 h), fun h => (eval_put_ne (by decide)).trans (h141 h)⟩
                        rw [eval_put_ne (a := a) (d := 142) (k := 132) (by decide), eval_put_same (a := a) (d := 142) zz, eval_put_ne (a := a) (d := 142) (k := 19) (by decide), eval_put_ne (a := a) (d := 142) (k := 20) (by decide)]
                        exact htb.call2 (clPhi_lasts _ ()) (clPhi_lasts _ ()) rfl hb
                      · intro d a w9 K hd hdep ⟨hsm, htb, h127, h128, h129, h130, h131, h133, h134, h135, h136, h137, h138, h139, h140, h141⟩ hK
                        have hz : a.tmps.size = 187 := hsm.sz.trans hsz
                        have hd16 : d 16 = false := hd
                        rw [if_pos (by rfl)]
                        have zz : 19 < a.tmps.size := by rw [hz]; decide
                        rw [hd16] at htb
                        simp only [Oper.wp, execOp]
                        go_simp
                        show K (a.put (some 19) _) _
                        refine hK.out _ _ ⟨hsm.put (by decide) _, ?_, fun h => (eval_put_ne (by decide)).trans (h127 h), fun h => (eval_put_ne (by decide)).trans (h128 h), fun h => (eval_put_ne (by decide)).trans (h129 h), fun h => (eval_put_ne (by decide)).trans (h130 h), fun h => (eval_put_ne (by decide)).trans (h131 h), fun h => (eval_put_ne (by decide)).trans (h133 h), fun h => (eval_put_ne (by decide)).trans (h134 h), fun h => (eval_put_ne (by decide)).trans (h135 h), fun h => (eval_put_ne (by decide)).trans (h136 h), fun h => (eval_put_ne (by decide)).trans (h137 h), fun h => (eval_put_ne (by decide)).trans (h138 h), fun h => (eval_put_ne (by decide)).trans (h139 h), fun h => (eval_put_ne (by decide)).trans (h140 h), fun h => (eval_put_ne (by decide)).trans (h141 h)⟩
                        rw [eval_put_ne (a := a) (d := 19) (k := 132) (by decide), eval_put_ne (a := a) (d := 19) (k := 142) (by decide), eval_put_same (a := a) (d := 19) zz, eval_put_ne (a := a) (d := 19) (k := 20) (by decide)]
                        exact htb.box1 (clPhi_lasts _ ()) (clPhi_lasts _ ())
                      · intro d a w9 K hd hdep ⟨hsm, htb, h127, h128, h129, h130, h131, h133, h134, h135, h136, h137, h138, h139, h140, h141⟩ hK
                        have hz : a.tmps.size = 187 := hsm.sz.trans hsz
                        have hd17 : d 17 = false := hd
                        rw [if_pos (by rfl)]
                        have zz : 20 < a.tmps.size := by rw [hz]; decide
                        rw [hd17] at htb
                        simp only [Oper.wp, execOp]
                        go_simp
                        show K (a.put (some 20) _) _
                        refine hK.out _ _ ⟨hsm.put (by decide) _, ?_, fun h => (eval_put_ne (by decide)).trans (h127 h), fun h => (eval_put_ne (by decide)).trans (h128 h), fun h => (eval_put_ne (by decide)).trans (h129 h), fun h => (eval_put_ne (by decide)).trans (h130 h), fun h => (eval_put_ne (by decide)).trans (h131 h), fun h => (eval_put_ne (by decide)).trans (h133 h), fun h => (eval_put_ne (by decide)).trans (h134 h), fun h => (eval_put_ne (by decide)).trans (h135 h), fun h => (eval_put_ne (by decide)).trans (h136 h), fun h => (eval_put_ne (by decide)).trans (h137 h), fun h => (eval_put_ne (by decide)).trans (h138 h), fun h => (eval_put_ne (by decide)).trans (h139 h), fun h => (eval_put_ne (by decide)).trans (h140 h), fun h => (eval_put_ne (by decide)).trans (h141 h)⟩
                        rw [eval_put_ne (a := a) (d := 20) (k := 132) (by decide), eval_put_ne (a := a) (d := 20) (k := 142) (by decide), eval_put_ne (a := a) (d := 20) (k := 19) (by decide), eval_put_same (a := a) (d := 20) zz]
                        exact htb.box2 (clPhi_lasts _ ()) (clPhi_lasts _ ())
                      · intro d a w9 K hd hdep ⟨hsm, htb, h127, h128, h129, h130, h131, h133, h134, h135, h136, h137, h138, h139, h140, h141⟩ hK
                        have hz : a.tmps.size = 187 := hsm.sz.trans hsz
                        have hd18 : d 18 = false := hd
                        rw [if_pos (by rfl)]
                        have d5 : d 5 = true := hdep ⟨5, .data⟩ (by simp) (by rfl)
                        have d16 : d 16 = true := hdep ⟨16, .data⟩ (by simp) (by rfl)
                        rw [hd18, d16, d5] at htb
                        obtain ⟨g, e1, hge, hbk, _⟩ := htb.b1 rfl
                        obtain ⟨c, e2, hphi⟩ := htb.r1 rfl
                        obtain rfl := hphi
                        have K0 := hbk rfl
                        have v0 := K0.cell 0
                        have v1 := K0.cell 1
                        have v2 := K0.cell 2
                        have v3 := K0.cell 3
                        have z0 := K0.frozen 0
                        have z1 := K0.frozen 1
                        have z2 := K0.frozen 2
                        have z3 := K0.frozen 3
                        simp at v0 v1 v2 v3
                        simp only [Oper.wp, execOp, e1, e2]
                        go_simp
                        show K a _
                        refine hK.out _ _ ⟨hsm, ?_, h127, h128, h129, h130, h131, h133, h134, h135, h136, h137, h138, h139, h140, h141⟩
                        rw [show upd d (0 + 1 + 1 + 1 + 1 + 1 + 1 + 1 + 1 + 1 + 1 + 1 + 1 + 1 + 1 + 1 + 1 + 1 + 1) 18 = true from rfl, show upd d (0 + 1 + 1 + 1 + 1 + 1 + 1 + 1 + 1 + 1 + 1 + 1 + 1 + 1 + 1 + 1 + 1 + 1 + 1) 16 = true from d16, show upd d (0 + 1 + 1 + 1 + 1 + 1 + 1 + 1 + 1 + 1 + 1 + 1 + 1 + 1 + 1 + 1 + 1 + 1 + 1) 5 = true from d5, e1, e2]
                        rw [e1, e2] at htb
                        exact htb.put1 (clPhi_lasts _ ()) (clPhi_lasts _ ()) (K0.set4 _ _ _ _ ) (touch4 _ _ _ _ _ _ )
                      · intro d a w9 K hd hdep ⟨hsm, htb, h127, h128, h129, h130, h131, h133, h134, h135, h136, h137, h138, h139, h140, h141⟩ hK
                        have hz : a.tmps.size = 187 := hsm.sz.trans hsz
                        have hd19 : d 19 = false := hd
                        rw [if_pos (by rfl)]
                        have d15 : d 15 = true := hdep ⟨15, .data⟩ (by simp) (by rfl)
                        have d17 : d 17 = true := hdep ⟨17, .data⟩ (by simp) (by rfl)
                        rw [hd19, d17, d15] at htb
                        obtain ⟨g, e1, hge, hbk, _⟩ := htb.b2 rfl
                        obtain ⟨c, e2, hphi⟩ := htb.r2 rfl
                        obtain rfl := hphi
                        have K0 := hbk rfl
                        have v0 := K0.cell 0
                        have v1 := K0.cell 1
                        have v2 := K0.cell 2
                        have v3 := K0.cell 3
                        have z0 := K0.frozen 0
                        have z1 := K0.frozen 1
                        have z2 := K0.frozen 2
                        have z3 := K0.frozen 3
                        simp at v0 v1 v2 v3
                        simp only [Oper.wp, execOp, e1, e2]
                        go_simp
                        show K a _
                        refine hK.out _ _ ⟨hsm, ?_, h127, h128, h129, h130, h131, h133, h134, h135, h136, h137, h138, h139, h140, h141⟩
                        rw [show upd d (0 + 1 + 1 + 1 + 1 + 1 + 1 + 1 + 1 + 1 + 1 + 1 + 1 + 1 + 1 + 1 + 1 + 1 + 1 + 1) 19 = true from rfl, show upd d (0 + 1 + 1 + 1 + 1 + 1 + 1 + 1 + 1 + 1 + 1 + 1 + 1 + 1 + 1 + 1 + 1 + 1 + 1 + 1) 17 = true from d17, show upd d (0 + 1 + 1 + 1 + 1 + 1 + 1 + 1 + 1 + 1 + 1 + 1 + 1 + 1 + 1 + 1 + 1 + 1 + 1 + 1) 15 = true from d15, e1, e2]
                        rw [e1, e2] at htb
                        exact htb.put2 (clPhi_lasts _ ()) (clPhi_lasts _ ()) (K0.set4 _ _ _ _ ) (touch4 _ _ _ _ _ _ )
                    · intro d a w9 hd ⟨hsm, htb, h127, h128, h129, h130, h131, h133, h134, h135, h136, h137, h138, h139, h140, h141⟩
                      have d0 : d 0 = true := hd 0 (by simp)
                      have d1 : d 1 = true := hd 1 (by simp)
                      have d2 : d 2 = true := hd 2 (by simp)
                      have d3 : d 3 = true := hd 3 (by simp)
                      have d4 : d 4 = true := hd 4 (by simp)
                      have d5 : d 5 = true := hd 5 (by simp)
                      have d6 : d 6 = true := hd 6 (by simp)
                      have d7 : d 7 = true := hd 7 (by simp)
                      have d8 : d 8 = true := hd 8 (by simp)
                      have d9 : d 9 = true := hd 9 (by simp)
                      have d10 : d 10 = true := hd 10 (by simp)
                      have d11 : d 11 = true := hd 11 (by simp)
                      have d12 : d 12 = true := hd 12 (by simp)
                      have d13 : d 13 = true := hd 13 (by simp)
                      have d14 : d 14 = true := hd 14 (by simp)
                      have d15 : d 15 = true := hd 15 (by simp)
                      have d16 : d 16 = true := hd 16 (by simp)
                      have d17 : d 17 = true := hd 17 (by simp)
                      have d18 : d 18 = true := hd 18 (by simp)
                      have d19 : d 19 = true := hd 19 (by simp)
                      rw [d5, d15, d16, d17, d18, d19] at htb
                      obtain ⟨ga9, gb9, ca9, cb9, e1, e2, e3, e4, k1, k2, p1, p2, hne9, hg1, hg2, hb9⟩ := htb.done
                      have ha := hsm.eq
                      simp only [List.foldl_cons, List.foldl_nil] at ha
                      rw [h127 d0, h128 d1, h129 d2, h130 d3, h131 d4, e3, h133 d6, h134 d7, h135 d8, h136 d9, h137 d10, h138 d11, h139 d12, h140 d13, h141 d14, e4, e1, e2] at ha
                      clear hsm htb h127 h128 h129 h130 h131 h133 h134 h135 h136 h137 h138 h139 h140 h141 e1 e2 e3 e4 hd
                      subst ha
                      simp only [Act.put, List.setIfInBounds_toArray, List.set_cons_zero, List.set_cons_succ]
                      obtain rfl := p1
                      obtain rfl := p2
                      go_wp2_with fail
                      go_meet
                      exact ⟨ga9, gb9, rfl, rfl, k1, k2, hne9, hg1, hb9⟩
                  case rest =>
                    obtain ⟨ga, gb, rfl, rfl, kga, kgb, hne, hga, hbw⟩ := hcut
                    rename World => wy
                    have HXy : Hid (Below wx.heap.size wx wy) := HXh.out.trans (hbw.mono HXh.out.size)
                    have HGA : Hid (wx.heap.size ≤ ga) := Nat.le_trans HXh.out.size hga
                    obtain ⟨⟨n0, n1, n2, n3⟩, _⟩ := H20.out _ HXy.out
                    have uh : IntKind.i64.wrap ((h : Int) + 1) = (h : Int) + 1 := IntWalk.i64_in _ (by omega)
                    have hne' : gb ≠ ga := Ne.symm hne
                    have KGA := Lib.hid kga
                    have KGB := Lib.hid kgb
                    obtain ⟨⟨vc, vs⟩, xr, xa⟩ := x
                    have hz := HZ9.out
                    have hx01 := HX01.out
                    simp only at hx01
                    have g3z := kga.frozen 3
                    clear hbw hga kga kgb HAT1 HAT2 HUS
                    by_cases hr0 : 0 ≤ xr
                    case neg =>
                      have D1 : decide (0 ≤ xr) = false := by simp [hr0]
                      rw [sh_neg (by omega)] at hz
                      subst hz
                      have hq := fun w9 : World => rneq_cl w9 ⟨⟨vc, vs⟩, xr, xa⟩ ⟨⟨vc, vs⟩, xr, xa⟩ false (by simp)
                      have c0 := KGA.out.cell 0
                      have c1 := KGA.out.cell 1
                      have c2 := KGA.out.cell 2
                      have c3 := KGA.out.cell 3
                      have e0 := KGB.out.cell 0
                      have e1 := KGB.out.cell 1
                      have e2 := KGB.out.cell 2
                      have e3 := KGB.out.cell 3
                      simp at c0 c1 c2 c3 e0 e1 e2 e3
                      clear hr0 HZ9
                      go_wp2_with fail
                      go_roundw
                      case rel => exact ⟨h + 1, by omega, by go_num, HXy⟩
                      case measure => simp [intOf]; omega
                    case pos =>
                    obtain ⟨k, rfl⟩ := Int.eq_ofNat_of_zero_le hr0
                    have D1 : decide ((0 : Int) ≤ (k : Int)) = true := by simp
                    by_cases hkR : k < nR
                    case neg =>
                      have D2 : decide (k < nR) = false := by simp [hkR]
                      rw [sh_big (by rw [HRL.out]; omega)] at hz
                      subst hz
                      have hq := fun w9 : World => rneq_cl w9 ⟨⟨vc, vs⟩, (k : Int), xa⟩ ⟨⟨vc, vs⟩, (k : Int), xa⟩ false (by simp)
                      have c0 := KGA.out.cell 0
                      have c1 := KGA.out.cell 1
                      have c2 := KGA.out.cell 2
                      have c3 := KGA.out.cell 3
                      have e0 := KGB.out.cell 0
                      have e1 := KGB.out.cell 1
                      have e2 := KGB.out.cell 2
                      have e3 := KGB.out.cell 3
                      simp at c0 c1 c2 c3 e0 e1 e2 e3
                      clear hr0 HZ9 hkR
                      go_wp2_with fail
                      go_roundw
                      case rel => exact ⟨h + 1, by omega, by go_num, HXy⟩
                      case measure => simp [intOf]; omega
                    case pos =>
                    have D2 : decide (k < nR) = true := by simp [hkR]
                    obtain ⟨b0, off0, r0, hRA0, _, hr0i, rk, _⟩ := (HRX.out.below (HXy.out.mono HSX.out)).rl_at hkR
                    rw [hRA0] at n3
                    have hkI : (k : Int) < (nR : Int) := by omega
                    have hk0 : (0 : Int) ≤ (k : Int) := by omega
                    by_cases hk2 : r0.k = 2
                    case neg =>
                      have D3 : (r0.k != 2) = true := by simp [hk2]
                      have D4 : (r0.k == 2) = false := by simp [hk2]
                      rw [sh_other hr0i hk2] at hz
                      subst hz
                      have ua : IntKind.i64.wrap (xa + (f : Int)) = xa + (f : Int) := IntWalk.i64_in _ (by have := HLL.out; omega)
                      have hq := fun w9 : World => rneq_cl w9 ⟨⟨vc, vs⟩, (k : Int), xa + (f : Int)⟩ ⟨⟨vc, vs⟩, (k : Int), xa + (f : Int)⟩ false (by simp)
                      have c0 := KGA.out.cell 0
                      have c1 := KGA.out.cell 1
                      have c2 := KGA.out.cell 2
                      have c3 := KGA.out.cell 3
                      have e0 := KGB.out.cell 0
                      have e1 := KGB.out.cell 1
                      have e2 := KGB.out.cell 2
                      have e3 := KGB.out.cell 3
                      simp at c0 c1 c2 c3 e0 e1 e2 e3
                      clear hr0 HZ9 hk2 hr0i hRA0
                      go_upto_region 34 with fail
                      obtain ⟨wz, hwz⟩ : ∃ wz, wy.setCell ⟨ga, 3, none⟩ (.int .i64 (xa + (f : Int))) = wz := ⟨_, rfl⟩
                      have kz1 : Blk wz ga 47 #[.int .i64 vc, .int .i64 vs, .int .i64 k, .int .i64 (xa + (f : Int))] := by rw [← hwz]; have := KGA.out.set_ 3 (.int .i64 (xa + (f : Int))); simpa using this
                      have kz2 : Blk wz gb 47 #[.int .i64 vc, .int .i64 vs, .int .i64 k, .int .i64 (xa + (f : Int))] := by rw [← hwz]; exact KGB.out.far (p := ⟨ga, 3, none⟩) hne' _
                      have HXz : Hid (Below wx.heap.size wx wz) := by rw [← hwz]; exact HXy.out.setCell (p := ⟨ga, 3, none⟩) HGA.out _
                      rw [hwz]
                      clear hwz c0 c1 c2 c3 e0 e1 e2 e3 n0 n1 n2 n3 g3z
                      have c0 := kz1.cell 0
                      have c1 := kz1.cell 1
                      have c2 := kz1.cell 2
                      have c3 := kz1.cell 3
                      have e0 := kz2.cell 0
                      have e1 := kz2.cell 1
                      have e2 := kz2.cell 2
                      have e3 := kz2.cell 3
                      simp at c0 c1 c2 c3 e0 e1 e2 e3
                      clear kz1 kz2
                      go_wp2_with fail
                      go_roundw
                      case rel => exact ⟨h + 1, by omega, by go_num, HXz⟩
                      case measure => simp [intOf]; omega
                    case pos =>
                    have D3 : (r0.k != 2) = false := by simp [hk2]
                    have D4 : (r0.k == 2) = true := by simp [hk2]
                    obtain ⟨j, rfl⟩ := Int.eq_ofNat_of_zero_le hx01.1
                    have D5 : decide ((0 : Int) ≤ (j : Int)) = true := by simp
                    by_cases hj : j < nP
                    case neg =>
                      have D6 : decide (j < nP) = false := by simp [hj]
                      rw [sh_out hr0i hk2 (by rw [HNP.out]; omega)] at hz
                      subst hz
                      have hq := fun w9 : World => rneq_cl w9 ⟨⟨vc, vs⟩, (k : Int), (j : Int)⟩ ⟨⟨vc, vs⟩, (k : Int), (j : Int)⟩ false (by simp)
                      have c0 := KGA.out.cell 0
                      have c1 := KGA.out.cell 1
                      have c2 := KGA.out.cell 2
                      have c3 := KGA.out.cell 3
                      have e0 := KGB.out.cell 0
                      have e1 := KGB.out.cell 1
                      have e2 := KGB.out.cell 2
                      have e3 := KGB.out.cell 3
                      simp at c0 c1 c2 c3 e0 e1 e2 e3
                      rw [hk2] at rk
                      clear hr0 HZ9 hk2 hr0i hRA0 D3 D4
                      go_wp2_with fail
                      go_roundw
                      case rel => exact ⟨h + 1, by omega, by go_num, HXy⟩
                      case measure => simp [intOf]; omega
                    case pos =>
                    have D6 : decide (j < nP) = true := by simp [hj]
                    have hjI : (j : Int) < (nP : Int) := by omega
                    have hj0 : (0 : Int) ≤ (j : Int) := by omega
                    obtain ⟨e9, he9⟩ : ∃ e9, (partK L f u nL)[j]? = some e9 := ⟨_, List.getElem?_eq_getElem (by rw [HNP.out]; exact hj)⟩
                    obtain ⟨b1, off1, hA2, _, ho⟩ := (HOX.out.below HXy.out).int_at hj
                    rw [show (((partK L f u nL).map fun x => (x.2 : Int))[j]?.getD 0) = (e9.2 : Int) by rw [List.getElem?_map, he9]; rfl] at ho
                    subst hA2
                    rw [sh_term hr0i hk2 he9] at hz
                    subst hz
                    have hq := fun w9 : World => rneq_cl w9 ⟨⟨vc, vs⟩, (k : Int), (e9.2 : Int)⟩ ⟨⟨vc, vs⟩, (k : Int), (e9.2 : Int)⟩ false (by simp)
                    have c0 := KGA.out.cell 0
                    have c1 := KGA.out.cell 1
                    have c2 := KGA.out.cell 2
                    have c3 := KGA.out.cell 3
                    have e0 := KGB.out.cell 0
                    have e1 := KGB.out.cell 1
                    have e2 := KGB.out.cell 2
                    have e3 := KGB.out.cell 3
                    simp at c0 c1 c2 c3 e0 e1 e2 e3
                    rw [hk2] at rk
                    clear hr0 HZ9 hk2 hr0i hRA0 D3 D4 he9
                    go_upto_region 34 with fail
                    obtain ⟨wz, hwz⟩ : ∃ wz, wy.setCell ⟨ga, 3, none⟩ (.int .i64 (e9.2 : Int)) = wz := ⟨_, rfl⟩
                    have kz1 : Blk wz ga 47 #[.int .i64 vc, .int .i64 vs, .int .i64 k, .int .i64 (e9.2 : Int)] := by rw [← hwz]; have := KGA.out.set_ 3 (.int .i64 (e9.2 : Int)); simpa using this
                    have kz2 : Blk wz gb 47 #[.int .i64 vc, .int .i64 vs, .int .i64 k, .int .i64 (e9.2 : Int)] := by rw [← hwz]; exact KGB.out.far (p := ⟨ga, 3, none⟩) hne' _
                    have HXz : Hid (Below wx.heap.size wx wz) := by rw [← hwz]; exact HXy.out.setCell (p := ⟨ga, 3, none⟩) HGA.out _
                    rw [hwz]
                    clear hwz c0 c1 c2 c3 e0 e1 e2 e3 n0 n1 n2 n3 g3z
                    have c0 := kz1.cell 0
                    have c1 := kz1.cell 1
                    have c2 := kz1.cell 2
                    have c3 := kz1.cell 3
                    have e0 := kz2.cell 0
                    have e1 := kz2.cell 1
                    have e2 := kz2.cell 2
                    have e3 := kz2.cell 3
                    simp at c0 c1 c2 c3 e0 e1 e2 e3
                    clear kz1 kz2
                    go_wp2_with fail
                    go_roundw
                    case rel => exact ⟨h + 1, by omega, by go_num, HXz⟩
                    case measure => simp [intOf]; omega
end Go.Proofs.YthakcefgbggkcaaDoor
