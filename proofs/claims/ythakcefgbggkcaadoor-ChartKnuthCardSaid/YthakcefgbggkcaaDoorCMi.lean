/- Build; awake. -/
import Derived.Test.YthakcefgbggkcaaDoorCMb
import Derived.Test.YthakcefgbggkcaaDoorCMs
namespace Go.Proofs.YthakcefgbggkcaaDoor
open Go.RowKit

theorem cls_zero (n : Nat) : madeCells (#[.int .i64 0, .int .i64 0, .int .i64 0, .int .i64 0] : Array Value) (n * 4) = (cls (List.replicate n ⟨⟨0, 0⟩, 0, 0⟩)).toArray := by
  apply Array.ext_getElem?
  intro j
  have e1 : cls (List.replicate n ⟨⟨0, 0⟩, 0, 0⟩) = List.replicate (n * 4) (.int .i64 0) := by
    induction n with
    | zero => rfl
    | succ n ih =>
      rw [List.replicate_succ, show (n + 1) * 4 = n * 4 + 1 + 1 + 1 + 1 by omega, List.replicate_succ, List.replicate_succ, List.replicate_succ, List.replicate_succ, ← ih]
      simp [cls, Cl.cells]
  rw [e1]
  simp only [madeCells, Array.getElem?_map, List.getElem?_toArray, List.getElem?_replicate]
  by_cases hj : j < n * 4
  · rw [Array.getElem?_range, if_pos hj, if_pos hj]
    have : j % 4 = 0 ∨ j % 4 = 1 ∨ j % 4 = 2 ∨ j % 4 = 3 := by omega
    rcases this with h | h | h | h <;> simp [h]
  · rw [Array.getElem?_range, if_neg hj, if_neg hj]
    rfl
theorem run_make_cls (n : Nat) (hn : n ≤ 1000000000) (w : World) : (Instr.makeSlice 32 (.int .i64 (n : Int)) (.int .i64 (n : Int))).run Tryd.prog w = .ok (.slice (some ⟨w.heap.size, 0, none⟩) n n) (w.alloc (.cells (cls (List.replicate n ⟨⟨0, 0⟩, 0, 0⟩)).toArray 47)) := by
  obtain ⟨i, hi, hzz⟩ := Option.map_eq_some_iff.1 infoClS
  simp only [Prod.mk.injEq] at hzz
  obtain ⟨hz, hs, hb⟩ := hzz
  have h := run_make (P := Tryd.prog) w 32 47 i _ Tryd.underlying32 hi hz .i64 .i64 (n : Int) (n : Int) (by omega) (by omega) (by rw [hb]; omega) (by omega)
  rw [h]
  have e : (Value.agg #[.int .i64 0, .int .i64 0, .int .i64 0, .int .i64 0]).cells = #[.int .i64 0, .int .i64 0, .int .i64 0, .int .i64 0] := by rfl
  rw [e, hs, Int.toNat_natCast, cls_zero]
theorem cells_count (N S : Nat) : (N * S) * (S + 1) = 2 * (tri S S * N) := by
  have h := tri_sq S S (Nat.le_refl S)
  have e : S * (S - 1) + S = S * S := by
    cases S with
    | zero => rfl
    | succ S => rw [Nat.add_sub_cancel]; exact (Nat.mul_succ (S + 1) S).symm
  have h2 : 2 * tri S S = S * (S + 1) := by rw [Nat.mul_succ]; omega
  rw [← Nat.mul_assoc, h2, Nat.mul_assoc, Nat.mul_comm]
/-- What a chart handed over is. -/
def ChartVal (w : World) (R : List Rl) (L : List Ar) (N S : Nat) (v : Value) : Prop := ∃ A c cs, v = .agg #[.int .i64 N, .int .i64 S, .slice A (tri S S * N) c] ∧ Reads w w.heap.size 4 A (tri S S * N) (cls cs) ∧ Chart R L N S cs ∧ tri S S * N ≤ c
theorem results_chart {fn : Func} {p : Tmp} (h : fn.results = #[.cell p 34]) {tmps : Array Value} {b o : Nat} (hp : tmps.getD p undef = .pointer (some ⟨b, o, none⟩)) {w : World} {c s r : Value}
    (h0 : w.cell? ⟨b, o, none⟩ = some c) (h1 : w.cell? ⟨b, o + 1, none⟩ = some s) (h2 : w.cell? ⟨b, o + 2, none⟩ = some r) :
    (results fn tmps).run Tryd.prog w = .ok (.agg #[c, s, r]) w := by
  rw [results_cell h tmps _ hp]
  simp [go_sem, h0, h1, h2]
theorem Reads.of_cls {w : World} {g n : Nat} {cs : List Cl} (h : Blk w g 47 (cls cs).toArray) (hl : cs.length = n) : Reads w w.heap.size 4 (some ⟨g, 0, none⟩) n (cls cs) :=
  ⟨by rw [cls_len, hl], fun _ => ⟨g, 0, rfl, h.lt, fun j u hu => by rw [Nat.zero_add, h.cell]; simpa using hu⟩⟩
/-- What 'Build' holds in memory. -/
structure BM (w0 w : World) (bn : Nat) (T : Int) (N : Nat) (st : Int) (RA : Option Addr) (nR rc S : Nat) (LA : Option Addr) (nL lc : Nat) (FA : Option Addr) (nf fc nc : Nat) (cs : List Cl) : Prop where
  k1 : Blk w bn 24 #[.int .i64 T, .int .i64 N, .int .i64 st, .slice RA nR rc]
  k2 : Blk w (bn + 1) 28 #[.int .i64 S, .slice LA nL lc, .slice FA nf fc]
  k3 : Blk w (bn + 2) 34 #[.int .i64 0, .int .i64 0, .slice none 0 0]
  k4 : Blk w (bn + 3) 34 #[.int .i64 N, .int .i64 S, .slice (some ⟨bn + 4, 0, none⟩) nc nc]
  k5 : Blk w (bn + 4) 47 (cls cs).toArray
  below : Below bn w0 w
section
variable {w0 w w' : World} {bn : Nat} {T : Int} {N : Nat} {st : Int} {RA : Option Addr} {nR rc S : Nat} {LA : Option Addr} {nL lc : Nat} {FA : Option Addr} {nf fc nc : Nat} {cs : List Cl}
theorem BM.next (h : BM w0 w bn T N st RA nR rc S LA nL lc FA nf fc nc cs) (hb : Below w.heap.size w w') : BM w0 w' bn T N st RA nR rc S LA nL lc FA nf fc nc cs :=
  ⟨h.k1.below hb h.k1.lt, h.k2.below hb h.k2.lt, h.k3.below hb h.k3.lt, h.k4.below hb h.k4.lt, h.k5.below hb h.k5.lt, h.below.trans (hb.mono (by have := h.k1.lt; omega))⟩
theorem BM.put (h : BM w0 w bn T N st RA nR rc S LA nL lc FA nf fc nc cs) (cs' : List Cl) : BM w0 (w.setRow (bn + 4) (cls cs').toArray) bn T N st RA nR rc S LA nL lc FA nf fc nc cs' :=
  ⟨h.k1.otherRow (by omega), h.k2.otherRow (by omega), h.k3.otherRow (by omega), h.k4.otherRow (by omega), h.k5.row, below_setRow h.below (by omega) _⟩
theorem BM.lim (h : BM w0 w bn T N st RA nR rc S LA nL lc FA nf fc nc cs) : w.cell? ⟨bn, 0, none⟩ = some (.int .i64 T) ∧ w.cell? ⟨bn, 1, none⟩ = some (.int .i64 N) ∧ w.cell? ⟨bn, 2, none⟩ = some (.int .i64 st) ∧ w.cell? ⟨bn, 3, none⟩ = some (.slice RA nR rc) ∧ w.cell? ⟨bn + 1, 0, none⟩ = some (.int .i64 S) ∧ w.cell? ⟨bn + 1, 1, none⟩ = some (.slice LA nL lc) ∧ w.cell? ⟨bn + 1, 2, none⟩ = some (.slice FA nf fc) ∧ w.cell? ⟨bn + 3, 0, none⟩ = some (.int .i64 N) ∧ w.cell? ⟨bn + 3, 1, none⟩ = some (.int .i64 S) ∧ w.cell? ⟨bn + 3, 2, none⟩ = some (.slice (some ⟨bn + 4, 0, none⟩) nc nc) :=
  ⟨h.k1.cell 0, h.k1.cell 1, h.k1.cell 2, h.k1.cell 3, h.k2.cell 0, h.k2.cell 1, h.k2.cell 2, h.k4.cell 0, h.k4.cell 1, h.k4.cell 2⟩
end
abbrev slI (s : Operand) (lo : Option Operand) : Op := .slice 32 s lo none none
theorem slI_eq (s : Operand) (lo : Option Operand) : Op.slice 32 s lo none none = slI s lo := rfl
set_option maxRecDepth 100000 in
set_option maxHeartbeats 8000000 in
theorem build_any (w : World) (T st : Int) (N S rc lc nf fc b0 : Nat) (RA LA FA : Option Addr) (R : List Rl) (L : List Ar) (rR : Reads w b0 6 RA R.length (rls R)) (rL : Reads w b0 5 LA L.length (ars L)) (hb0 : b0 ≤ w.heap.size) (hg : NoneAt w)
    (hR : ∀ r ∈ R, r.Ok N) (hL : ArsOk S L) (hN0 : 0 < N) (hN : N ≤ 1000) (hS : S ≤ 200) (hnR : R.length ≤ 600) (hnL : L.length ≤ 10000) :
    Calls Tryd.prog 14 #[.agg #[.int .i64 T, .int .i64 N, .int .i64 st, .slice RA R.length rc], .agg #[.int .i64 S, .slice LA L.length lc, .slice FA nf fc]] w fun e w' => ∃ v, e = .returned v ∧ ChartVal w' R L N S v ∧ Below w.heap.size w w' := by
  obtain ⟨nc, hnc⟩ : ∃ nc, tri S S * N = nc := ⟨_, rfl⟩
  have hNS : N * S ≤ 1000 * 200 := Nat.mul_le_mul hN hS
  have hcc := cells_count N S
  have hncb : (N * S) * (S + 1) ≤ 200000 * 201 := Nat.mul_le_mul hNS (by omega)
  rw [hnc] at hcc
  have hnb : nc ≤ 30000000 := by omega
  obtain ⟨x, hx⟩ : ∃ x : Int, (N : Int) * (S : Int) = x := ⟨_, rfl⟩
  have hxe : x = ((N * S : Nat) : Int) := by rw [← hx]; push_cast; rfl
  obtain ⟨y, hy⟩ : ∃ y : Int, x * ((S : Int) + 1) = y := ⟨_, rfl⟩
  have hye : y = 2 * (nc : Int) := by
    have h1 : (((N * S) * (S + 1) : Nat) : Int) = ((2 * nc : Nat) : Int) := by rw [hcc]
    rw [← hy, hxe]
    push_cast at h1 ⊢
    exact h1
  have u1 : IntKind.i64.wrap ((N : Int) * (S : Int)) = x := by rw [hx, hxe]; exact IntWalk.i64_in _ (by omega)
  have u2 : IntKind.i64.wrap ((S : Int) + 1) = (S : Int) + 1 := IntWalk.i64_in _ (by omega)
  have u3 : IntKind.i64.wrap (x * ((S : Int) + 1)) = y := by rw [hy, hye]; exact IntWalk.i64_in _ (by omega)
  have u4 : y / 2 = (nc : Int) := by omega
  have u5 : IntKind.i64.wrap (nc : Int) = (nc : Int) := IntWalk.i64_in _ (by omega)
  have hyb : 0 ≤ y := by omega
  have mk := run_make_cls nc (by omega)
  have HNC := Lib.hid hnc
  have HP := Lib.hid (And.intro hR hL)
  have HRR := Lib.hid (rR.more hb0)
  have HRL := Lib.hid (rL.more hb0)
  have HG := Lib.hid hg
  clear hcc hncb hNS hx hxe hy hye rR rL hb0 hR hL hg
  obtain ⟨nR, hnRe⟩ : ∃ nR, R.length = nR := ⟨_, rfl⟩
  obtain ⟨nL, hnLe⟩ : ∃ nL, L.length = nL := ⟨_, rfl⟩
  rw [hnRe] at HRR hnR ⊢
  rw [hnLe] at HRL hnL ⊢
  have HNR := Lib.hid hnRe
  have HNL := Lib.hid hnLe
  clear hnRe hnLe
  obtain ⟨bn, hbn⟩ : ∃ bn, w.heap.size = bn := ⟨_, rfl⟩
  obtain ⟨W, hW⟩ : ∃ W, ((((w.alloc (.cells #[.int .i64 T, .int .i64 N, .int .i64 st, .slice RA nR rc] 24)).alloc (.cells #[.int .i64 S, .slice LA nL lc, .slice FA nf fc] 28)).alloc (.cells #[.int .i64 0, .int .i64 0, .slice none 0 0] 34)).alloc (.cells #[.int .i64 N, .int .i64 S, .slice none 0 0] 34)) = W := ⟨_, rfl⟩
  have hsW : W.heap.size = bn + 4 := by rw [← hW, ← hbn]; simp
  have K1 : Blk W bn 24 #[.int .i64 T, .int .i64 N, .int .i64 st, .slice RA nR rc] := by rw [← hW]; exact (((Blk.new' w _ _ hbn).alloc _).alloc _).alloc _
  have K2 : Blk W (bn + 1) 28 #[.int .i64 S, .slice LA nL lc, .slice FA nf fc] := by rw [← hW]; exact ((Blk.new' _ _ _ (by simp; omega)).alloc _).alloc _
  have K3 : Blk W (bn + 2) 34 #[.int .i64 0, .int .i64 0, .slice none 0 0] := by rw [← hW]; exact (Blk.new' _ _ _ (by simp; omega)).alloc _
  have K4 : Blk W (bn + 3) 34 #[.int .i64 N, .int .i64 S, .slice none 0 0] := by rw [← hW]; exact Blk.new' _ _ _ (by simp; omega)
  have hbW : Below bn w W := by rw [← hW, ← hbn]; exact ((((Below.refl _ _).alloc (Nat.le_refl _) _).alloc (by simp) _).alloc (by simp; omega) _).alloc (by simp; omega) _
  have HBM0 : Hid (BM w ((W.setCell ⟨bn + 3, 2, none⟩ (.slice (some ⟨bn + 4, 0, none⟩) nc nc)).alloc (.cells (cls (List.replicate nc ⟨⟨0, 0⟩, 0, 0⟩)).toArray 47)) bn T N st RA nR rc S LA nL lc FA nf fc nc (List.replicate nc ⟨⟨0, 0⟩, 0, 0⟩)) := by
    have hsz : (W.setCell ⟨bn + 3, 2, none⟩ (.slice (some ⟨bn + 4, 0, none⟩) nc nc)).heap.size = bn + 4 := by simp [World.setCell, hsW]
    refine ⟨(K1.far (p := ⟨bn + 3, 2, none⟩) (by show bn ≠ bn + 3; omega) _).alloc _, (K2.far (p := ⟨bn + 3, 2, none⟩) (by show bn + 1 ≠ bn + 3; omega) _).alloc _, (K3.far (p := ⟨bn + 3, 2, none⟩) (by show bn + 2 ≠ bn + 3; omega) _).alloc _, ?_, Blk.new' _ _ _ hsz, (hbW.setCell (p := ⟨bn + 3, 2, none⟩) (by show bn ≤ bn + 3; omega) _).alloc (by rw [hsz]; omega) _⟩
    exact (K4.set_ 2 (.slice (some ⟨bn + 4, 0, none⟩) nc nc)).alloc _
  have HGR0 : Hid (Grid R L N S 0 0 (List.replicate nc ⟨⟨0, 0⟩, 0, 0⟩)) := Grid.start (by rw [List.length_replicate]; exact HNC.out.symm) (fun c hc => by obtain ⟨_, rfl⟩ := List.mem_replicate.1 hc; exact ⟨by unfold Ordy; simp, fun h => by simp at h⟩)
  have HW := Lib.hid hW
  have HBN := Lib.hid hbn
  have n1 := K1.cell 1
  have l0 := K2.cell 0
  have c2 := K4.cell 2
  have z2 := K4.frozen 2
  simp at n1 l0 c2
  clear hW K1 K2 K3 K4 hbW
  go_enter Tryd.func14, Tryd.ntmps14
  go_upto_region 2 with fail
  rw [HW.out]
  rw [show bn + 1 + 1 = bn + 2 by rfl, show bn + 2 + 1 = bn + 3 by rfl]
  clear hbn
  go_upto_region 3 with fail
  clear n1 l0 c2 z2 hsW mk u1 u2 u3 u4 u5 hyb
  generalize ((W.setCell ⟨bn + 3, 2, none⟩ (.slice (some ⟨bn + 4, 0, none⟩) nc nc)).alloc (.cells (cls (List.replicate nc ⟨⟨0, 0⟩, 0, 0⟩)).toArray 47)) = w2 at HBM0 ⊢
  have l0 := HBM0.out.k2.cell 0
  simp at l0
  go_wp2_with fail
  go_loopw [27] (fun x wr => ∃ d : Nat, d ≤ S ∧ x = .int .i64 d ∧ ∃ cs, Hid (BM w wr bn T N st RA nR rc S LA nL lc FA nf fc nc cs) ∧ Hid (Grid R L N S d 0 cs)) (fun x _ => S - (intOf x).toNat)
  case atStart => exact ⟨0, Nat.zero_le _, rfl, _, HBM0, HGR0⟩
  case round =>
    obtain ⟨d, hd, rfl, cs, HBM, HGR⟩ := hrel
    clear HBM0 HGR0 l0
    by_cases hlt : d < S
    case neg =>
      have hltD : decide (d < S) = false := by simp [hlt]
      obtain rfl : S = d := by omega
      clear hlt hd
      have c0 := HBM.out.k4.cell 0
      have c1 := HBM.out.k4.cell 1
      have c2 := HBM.out.k4.cell 2
      have r0 := HBM.out.k3.cell 0
      have r1 := HBM.out.k3.cell 1
      have r2 := HBM.out.k3.cell 2
      have z0 := HBM.out.k3.frozen 0
      have z1 := HBM.out.k3.frozen 1
      have z2 := HBM.out.k3.frozen 2
      simp at c0 c1 c2 r0 r1 r2
      have HF : Hid (∃ v, Ending.returned (.agg #[.int .i64 N, .int .i64 S, .slice (some ⟨bn + 4, 0, none⟩) nc nc]) = .returned v ∧ ChartVal (((wr.setCell ⟨bn + 2, 0, none⟩ (.int .i64 N)).setCell ⟨bn + 2, 1, none⟩ (.int .i64 S)).setCell ⟨bn + 2, 2, none⟩ (.slice (some ⟨bn + 4, 0, none⟩) nc nc)) R L N S v ∧ Below w.heap.size w (((wr.setCell ⟨bn + 2, 0, none⟩ (.int .i64 N)).setCell ⟨bn + 2, 1, none⟩ (.int .i64 S)).setCell ⟨bn + 2, 2, none⟩ (.slice (some ⟨bn + 4, 0, none⟩) nc nc))) := by
        have k5 := ((HBM.out.k5.far (p := ⟨bn + 2, 0, none⟩) (by show bn + 4 ≠ bn + 2; omega) (.int .i64 N)).far (p := ⟨bn + 2, 1, none⟩) (by show bn + 4 ≠ bn + 2; omega) (.int .i64 S)).far (p := ⟨bn + 2, 2, none⟩) (by show bn + 4 ≠ bn + 2; omega) (.slice (some ⟨bn + 4, 0, none⟩) nc nc)
        refine ⟨_, rfl, ⟨some ⟨bn + 4, 0, none⟩, nc, cs, by rw [HNC.out], Reads.of_cls k5 (by rw [HGR.out.len]), HGR.out, by rw [HNC.out]; exact Nat.le_refl _⟩, ?_⟩
        rw [HBN.out]
        exact ((HBM.out.below.setCell (p := ⟨bn + 2, 0, none⟩) (by show bn ≤ bn + 2; omega) _).setCell (p := ⟨bn + 2, 1, none⟩) (by show bn ≤ bn + 2; omega) _).setCell (p := ⟨bn + 2, 2, none⟩) (by show bn ≤ bn + 2; omega) _
      have r3 := ((HBM.out.k3.set_ 0 (.int .i64 N)).set_ 1 (.int .i64 S)).set_ 2 (.slice (some ⟨bn + 4, 0, none⟩) nc nc)
      go_wp2_with fail
      exact bodyPost_ret (results_chart rfl rfl (r3.cell 0) (r3.cell 1) (r3.cell 2)) rfl HF.out
    case pos =>
      have hltD : decide (d < S) = true := by simp [hlt]
      go_upto_region 6 with fail
      go_wp2_with fail
      rename World => w3
      have HGRd := HGR
      go_loopw [7] (fun x wr => ∃ f : Nat, f + d ≤ S ∧ x = .int .i64 f ∧ ∃ cs, Hid (BM w wr bn T N st RA nR rc S LA nL lc FA nf fc nc cs) ∧ Hid (Grid R L N S d f cs)) (fun x _ => S - (intOf x).toNat)
      case atStart => exact ⟨0, by omega, rfl, cs, HBM, HGR⟩
      case round =>
        obtain ⟨f, hf, rfl, cs, HBM1, HGR1⟩ := hrel
        clear HBM HGR
        have l0 := HBM1.out.k2.cell 0
        simp at l0
        by_cases hfs : f + d < S
        case neg =>
          have hD1 : decide ((f : Int) + (d : Int) < (S : Int)) = false := by simp; omega
          have HGU := Lib.hid (HGR1.out.up (by omega))
          go_wp2_with fail
          go_roundw
          case rel => exact ⟨d + 1, by omega, by go_num, cs, HBM1, HGU⟩
          case measure => simp [intOf]; omega
        case pos =>
          have hD1 : decide ((f : Int) + (d : Int) < (S : Int)) = true := by simp; omega
          obtain ⟨o, ho⟩ : ∃ o, cix S f (f + d) = o := ⟨_, rfl⟩
          have hroom := cix_room (N := N) (s := f) (t := f + d) (by omega) hfs
          rw [ho, HNC.out] at hroom
          have HBMd : Hid (BM w wr.drew bn T N st RA nR rc S LA nL lc FA nf fc nc cs) := HBM1.out.next (Below.refl _ _).drew
          have HS0 : Hid (wr.drew.cell? ⟨bn, 0, none⟩ = some (.int .i64 T) ∧ wr.drew.cell? ⟨bn, 1, none⟩ = some (.int .i64 N) ∧ wr.drew.cell? ⟨bn, 2, none⟩ = some (.int .i64 st) ∧ wr.drew.cell? ⟨bn, 3, none⟩ = some (.slice RA nR rc) ∧ wr.drew.cell? ⟨bn + 1, 0, none⟩ = some (.int .i64 S) ∧ wr.drew.cell? ⟨bn + 1, 1, none⟩ = some (.slice LA nL lc) ∧ wr.drew.cell? ⟨bn + 1, 2, none⟩ = some (.slice FA nf fc) ∧ wr.drew.cell? ⟨bn + 3, 0, none⟩ = some (.int .i64 N) ∧ wr.drew.cell? ⟨bn + 3, 1, none⟩ = some (.int .i64 S) ∧ wr.drew.cell? ⟨bn + 3, 2, none⟩ = some (.slice (some ⟨bn + 4, 0, none⟩) nc nc)) := HBMd.out.lim
          have HOFF : Hid (∀ w9, Calls Tryd.prog 33 #[(.agg #[.int .i64 N, .int .i64 S, .slice (some ⟨bn + 4, 0, none⟩) nc nc]), .int .i64 f, .int .i64 ((f : Int) + (d : Int))] w9 fun e w' => e = .returned (.int .i64 (o * N : Nat)) ∧ Below w9.heap.size w9 w') := fun w9 => by
            have h := offset_any N S f (f + d) nc (some ⟨bn + 4, 0, none⟩) nc w9 (by omega) hfs (by omega) (by omega)
            rw [ho, Int.natCast_add] at h
            exact h
          have HSPAN : Hid (∀ w9, BM w w9 bn T N st RA nR rc S LA nL lc FA nf fc nc cs → Calls Tryd.prog 23 #[.agg #[.int .i64 T, .int .i64 N, .int .i64 st, .slice RA nR rc], .agg #[.int .i64 S, .slice LA nL lc, .slice FA nf fc], (.agg #[.int .i64 N, .int .i64 S, .slice (some ⟨bn + 4, 0, none⟩) nc nc]), .int .i64 f, .int .i64 ((f : Int) + (d : Int))] w9 fun e w' =>
              ∃ A c U, e = .returned (.slice A N c) ∧ SSol R L f (f + d) (CC N S cs) U ∧ BM w w' bn T N st RA nR rc S LA nL lc FA nf fc nc cs ∧ Reads w' w'.heap.size 4 A N (cls ((List.range N).map (cel R L f (f + d) (CC N S cs) U)))) := fun w9 h9 => by
            have hlen : cs.length = nc := by rw [HGR1.out.len, HNC.out]
            have hg9 : 0 < bn := by rw [← HBN.out]; exact HG.out.lt
            have hlt9 : bn ≤ w9.heap.size := by have := h9.k1.lt; omega
            have h := span_any w9 ⟨w9.heap.size, 0, 0, 0, 0, 0, 0, T, st, N, S, RA, rc, R, LA, lc, L, FA, nf, fc, some ⟨bn + 4, 0, none⟩, nc, cs, f, f + d⟩
              ⟨HP.out.1, HP.out.2, fun x => atC_nrm HGR1.out.nrm x, by show f ≤ f + d; omega, hfs, hN, hS, by show R.length ≤ 600; rw [HNR.out]; exact hnR, by show L.length ≤ 10000; rw [HNL.out]; exact hnL, by show cs.length ≤ 1000000000; rw [hlen]; omega, by show _ < w9.heap.size; omega⟩ rfl
              (by show Reads w9 w9.heap.size 6 RA R.length (rls R); rw [HNR.out]; have h1 := HRR.out; rw [HBN.out] at h1; exact (h1.below h9.below).more hlt9)
              (by show Reads w9 w9.heap.size 5 LA L.length (ars L); rw [HNL.out]; have h1 := HRL.out; rw [HBN.out] at h1; exact (h1.below h9.below).more hlt9)
              (by show Reads w9 w9.heap.size 4 (some ⟨bn + 4, 0, none⟩) cs.length (cls cs); exact Reads.of_cls h9.k5 rfl)
              (HG.out.below h9.below hg9)
            dsimp only at h
            rw [HNR.out, HNL.out, hlen, Int.natCast_add] at h
            refine h.mono ?_
            rintro e w' ⟨A, c, U, he, h1, h2, h3⟩
            exact ⟨A, c, U, he, h2, h9.next h3, h1⟩
          have uw : IntKind.i64.wrap ((f : Int) + (d : Int)) = (f : Int) + (d : Int) := IntWalk.i64_in _ (by omega)
          have HO := Lib.hid ho
          have HLEN : Hid (cs.length = nc) := HGR1.out.len.trans HNC.out
          clear ho
          go_upto_region 9 with fail
          clear l0
          simp only [slI_eq]
          go_region_held3 (fun w' => w'.cell? ⟨bn, 0, none⟩ = some (.int .i64 T) ∧ w'.cell? ⟨bn, 1, none⟩ = some (.int .i64 N) ∧ w'.cell? ⟨bn, 2, none⟩ = some (.int .i64 st) ∧ w'.cell? ⟨bn, 3, none⟩ = some (.slice RA nR rc) ∧ w'.cell? ⟨bn + 1, 0, none⟩ = some (.int .i64 S) ∧ w'.cell? ⟨bn + 1, 1, none⟩ = some (.slice LA nL lc) ∧ w'.cell? ⟨bn + 1, 2, none⟩ = some (.slice FA nf fc) ∧ w'.cell? ⟨bn + 3, 0, none⟩ = some (.int .i64 N) ∧ w'.cell? ⟨bn + 3, 1, none⟩ = some (.int .i64 S) ∧ w'.cell? ⟨bn + 3, 2, none⟩ = some (.slice (some ⟨bn + 4, 0, none⟩) nc nc))
            (first | with_reducible exact HS0.out | with_reducible exact HS4.out | with_reducible exact HS5.out | exact (HBML.out.put _).lim)
            (first | (go_at_call 33; (with_reducible refine (HOFF.out _).mono ?_); rintro e4 w4 ⟨rfl, hb4⟩; have HBM4 : Hid (BM w w4 bn T N st RA nR rc S LA nL lc FA nf fc nc cs) := (by first | exact HBM5.out.next hb4 | exact HBMd.out.next hb4); have HS4 : Hid (w4.cell? ⟨bn, 0, none⟩ = some (.int .i64 T) ∧ w4.cell? ⟨bn, 1, none⟩ = some (.int .i64 N) ∧ w4.cell? ⟨bn, 2, none⟩ = some (.int .i64 st) ∧ w4.cell? ⟨bn, 3, none⟩ = some (.slice RA nR rc) ∧ w4.cell? ⟨bn + 1, 0, none⟩ = some (.int .i64 S) ∧ w4.cell? ⟨bn + 1, 1, none⟩ = some (.slice LA nL lc) ∧ w4.cell? ⟨bn + 1, 2, none⟩ = some (.slice FA nf fc) ∧ w4.cell? ⟨bn + 3, 0, none⟩ = some (.int .i64 N) ∧ w4.cell? ⟨bn + 3, 1, none⟩ = some (.int .i64 S) ∧ w4.cell? ⟨bn + 3, 2, none⟩ = some (.slice (some ⟨bn + 4, 0, none⟩) nc nc)) := HBM4.out.lim; (try have HRD := Lib.hid ((HR5.out.below hb4).more hb4.size)); have HBML := HBM4; clear hb4) | (go_at_call 23; (with_reducible refine (HSPAN.out _ (by first | exact HBM4.out | exact HBMd.out)).mono ?_); rintro e5 w5 ⟨A5, c5, U5, rfl, hs5, hbm5, hr5⟩; have HSS := Lib.hid hs5; have HBM5 := Lib.hid hbm5; have HR5 := Lib.hid hr5; have HS5 : Hid (w5.cell? ⟨bn, 0, none⟩ = some (.int .i64 T) ∧ w5.cell? ⟨bn, 1, none⟩ = some (.int .i64 N) ∧ w5.cell? ⟨bn, 2, none⟩ = some (.int .i64 st) ∧ w5.cell? ⟨bn, 3, none⟩ = some (.slice RA nR rc) ∧ w5.cell? ⟨bn + 1, 0, none⟩ = some (.int .i64 S) ∧ w5.cell? ⟨bn + 1, 1, none⟩ = some (.slice LA nL lc) ∧ w5.cell? ⟨bn + 1, 2, none⟩ = some (.slice FA nf fc) ∧ w5.cell? ⟨bn + 3, 0, none⟩ = some (.int .i64 N) ∧ w5.cell? ⟨bn + 3, 1, none⟩ = some (.int .i64 S) ∧ w5.cell? ⟨bn + 3, 2, none⟩ = some (.slice (some ⟨bn + 4, 0, none⟩) nc nc)) := hbm5.lim; have HRD := HR5; have HBML := HBM5; clear hs5 hbm5 hr5) | (refine step_copy_runI rfl (.tmp 46) (.tmp 54) 32 32 rfl (.slice (some ⟨bn + 4, o * N * 4, none⟩) (nc - o * N) (nc - o * N)) (.slice A5 N c5) (by simp [Act.eval]) (by simp [Act.eval]) (run_copy_cls _ _ (bn + 4) (o * N) _ _ A5 N c5 cs _ HBML.out.k5 hN0 (by omega) (by rw [HLEN.out]; omega) HRD.out) ?_))
          all_goals
            have HG2 : Hid (Grid R L N S d (f + 1) (ow cs (o * N) ((List.range N).map (cel R L f (f + d) (CC N S cs) U5)))) := by
              have h := HGR1.out.step HP.out.1 hfs HSS.out
              rw [HO.out] at h
              exact h
            go_wp2_with fail
            go_roundw
            case rel => exact ⟨f + 1, by omega, by go_num, _, HBML.out.put _, HG2⟩
            case measure => simp [intOf]; omega
end Go.Proofs.YthakcefgbggkcaaDoor

namespace Go.Proofs.YthakcefgbggkcaaDoor
open Go.RowKit

theorem results_ex {fn : Func} {p q : Tmp} (h : fn.results = #[.cell p 24, .cell q 28]) {tmps : Array Value} {a b : Nat} (hp : tmps.getD p undef = .pointer (some ⟨a, 0, none⟩)) (hq : tmps.getD q undef = .pointer (some ⟨b, 0, none⟩)) {w : World} {x0 x1 x2 x3 y0 y1 y2 : Value}
    (h0 : w.cell? ⟨a, 0, none⟩ = some x0) (h1 : w.cell? ⟨a, 1, none⟩ = some x1) (h2 : w.cell? ⟨a, 2, none⟩ = some x2) (h3 : w.cell? ⟨a, 3, none⟩ = some x3) (g0 : w.cell? ⟨b, 0, none⟩ = some y0) (g1 : w.cell? ⟨b, 1, none⟩ = some y1) (g2 : w.cell? ⟨b, 2, none⟩ = some y2) :
    (results fn tmps).run Tryd.prog w = .ok (.tuple #[.agg #[x0, x1, x2, x3], .agg #[y0, y1, y2]]) w := by
  simp only [results, h]
  have e1 : tmps[p]?.getD undef = .pointer (some ⟨a, 0, none⟩) := by rw [← hp]; simp
  have e2 : tmps[q]?.getD undef = .pointer (some ⟨b, 0, none⟩) := by rw [← hq]; simp
  simp [e1, e2, asAddr, go_sem, h0, h1, h2, h3, g0, g1, g2]
set_option maxRecDepth 100000 in
set_option maxHeartbeats 8000000 in
theorem example_any (w : World) : Calls Tryd.prog 32 #[] w fun e w' => ∃ gR gL gF : Nat, e = .returned (.tuple #[.agg #[.int .i64 1, .int .i64 1, .int .i64 0, .slice (some ⟨gR, 0, none⟩) 2 2], .agg #[.int .i64 3, .slice (some ⟨gL, 0, none⟩) 2 2, .slice (some ⟨gF, 0, none⟩) 3 3]]) ∧
    Reads w' w'.heap.size 6 (some ⟨gR, 0, none⟩) 2 (rls exR) ∧ Reads w' w'.heap.size 5 (some ⟨gL, 0, none⟩) 2 (ars exL) ∧ Reads w' w'.heap.size 1 (some ⟨gF, 0, none⟩) 3 (ints exF) ∧ Below w.heap.size w w' := by
  go_enter Tryd.func32, Tryd.ntmps32
  go_wp2_with fail
  obtain ⟨b, hb⟩ : ∃ b, w.heap.size = b := ⟨_, rfl⟩
  obtain ⟨W, hW⟩ : ∃ W, ((((((w.alloc (.cells #[.int .i64 1, .int .i64 1, .int .i64 0, .slice (some ⟨b + 2, 0, none⟩) 2 2] 24)).alloc (.cells #[.int .i64 3, .slice (some ⟨b + 4, 0, none⟩) 2 2, .slice (some ⟨b + 5, 0, none⟩) 3 3] 28)).alloc
    (.cells (rls exR).toArray 65)).alloc (.cells #[.int .i64 1, .int .i64 1, .int .i64 0, .slice (some ⟨b + 2, 0, none⟩) 2 2] 24)).alloc (.cells (ars exL).toArray 68)).alloc (.cells (ints exF).toArray 3)) = W := ⟨_, rfl⟩
  have K0 : Blk W b 24 #[.int .i64 1, .int .i64 1, .int .i64 0, .slice (some ⟨b + 2, 0, none⟩) 2 2] := by rw [← hW]; exact (((((Blk.new' w _ _ hb).alloc _).alloc _).alloc _).alloc _).alloc _
  have K1 : Blk W (b + 1) 28 #[.int .i64 3, .slice (some ⟨b + 4, 0, none⟩) 2 2, .slice (some ⟨b + 5, 0, none⟩) 3 3] := by rw [← hW]; exact ((((Blk.new' _ _ _ (by simp; omega)).alloc _).alloc _).alloc _).alloc _
  have K2 : Blk W (b + 2) 65 (rls exR).toArray := by rw [← hW]; exact (((Blk.new' _ _ _ (by simp; omega)).alloc _).alloc _).alloc _
  have K4 : Blk W (b + 4) 68 (ars exL).toArray := by rw [← hW]; exact (Blk.new' _ _ _ (by simp; omega)).alloc _
  have K5 : Blk W (b + 5) 3 (ints exF).toArray := by rw [← hW]; exact Blk.new' _ _ _ (by simp; omega)
  have hbW : Below b w W := by
    rw [← hW]
    exact ((((((Below.refl _ _).alloc (by omega) _).alloc (by simp; omega) _).alloc (by simp; omega) _).alloc (by simp; omega) _).alloc (by simp; omega) _).alloc (by simp; omega) _
  rw [hb]
  change bodyPost _ _ _ _ _ ((((((w.alloc (.cells #[.int .i64 1, .int .i64 1, .int .i64 0, .slice (some ⟨b + 2, 0, none⟩) 2 2] 24)).alloc (.cells #[.int .i64 3, .slice (some ⟨b + 4, 0, none⟩) 2 2, .slice (some ⟨b + 5, 0, none⟩) 3 3] 28)).alloc
    (.cells (rls exR).toArray 65)).alloc (.cells #[.int .i64 1, .int .i64 1, .int .i64 0, .slice (some ⟨b + 2, 0, none⟩) 2 2] 24)).alloc (.cells (ars exL).toArray 68)).alloc (.cells (ints exF).toArray 3))
  rw [hW]
  clear hW
  have hk : ∀ {g n sz : Nat} {t : TypeId} {l : List Value}, Blk W g t l.toArray → l.length = n * sz → Reads W W.heap.size sz (some ⟨g, 0, none⟩) n l := fun h hl => ⟨hl, fun _ => ⟨_, 0, rfl, h.lt, fun j u hu => by rw [Nat.zero_add, h.cell]; simpa using hu⟩⟩
  exact bodyPost_ret (results_ex rfl rfl rfl (K0.cell 0) (K0.cell 1) (K0.cell 2) (K0.cell 3) (K1.cell 0) (K1.cell 1) (K1.cell 2)) rfl ⟨b + 2, b + 4, b + 5, rfl, hk K2 rfl, hk K4 rfl, hk K5 rfl, hbW⟩
theorem exR_ok : ∀ r ∈ exR, r.Ok 1 := by
  intro r hr
  simp only [exR, List.mem_cons, List.not_mem_nil, or_false] at hr
  rcases hr with rfl | rfl
  · exact ⟨⟨by decide, by decide⟩, ⟨by decide, by decide⟩, .inl (.inr rfl)⟩
  · exact ⟨⟨by decide, by decide⟩, ⟨by decide, by decide⟩, .inr (.inr ⟨rfl, ⟨by decide, by decide⟩, ⟨by decide, by decide⟩⟩)⟩
theorem exL_ok : ArsOk 3 exL := by
  refine ⟨fun a ha => ?_, fun i a b ha hb => ?_⟩
  · simp only [exL, List.mem_cons, List.not_mem_nil, or_false] at ha
    rcases ha with rfl | rfl <;> exact ⟨by decide, by decide, by decide, by decide, by decide⟩
  · rcases i with _ | i
    · simp [exL] at ha hb
      subst ha hb
      exact .inl (by decide)
    · simp [exL] at hb
theorem eql_cl (c s r a c' s' r' a' : Int) (w : World) : (binOp .eql 47 (.agg #[.int .i64 c, .int .i64 s, .int .i64 r, .int .i64 a]) (.agg #[.int .i64 c', .int .i64 s', .int .i64 r', .int .i64 a'])).run Tryd.prog w = .ok (.bool (decide (c = c') && (decide (s = s') && (decide (r = r') && decide (a = a'))))) w := by
  simp only [binOp]
  by_cases h1 : c = c'
  · by_cases h2 : s = s'
    · by_cases h3 : r = r'
      · by_cases h4 : a = a' <;> simp [go_sem, Op.equal, Op.maxDepth, h1, h2, h3, h4]
      · simp [go_sem, Op.equal, Op.maxDepth, h1, h2, h3]
    · simp [go_sem, Op.equal, Op.maxDepth, h1, h2]
  · simp [go_sem, Op.equal, Op.maxDepth, h1]
set_option maxRecDepth 100000 in
set_option maxHeartbeats 8000000 in
theorem awake_any (w : World) (hg : NoneAt w) : Calls Tryd.prog 12 #[] w fun e w' => e = .returned (.bool true) ∧ Below w.heap.size w w' := by
  have HG := Lib.hid hg
  clear hg
  go_enter Tryd.func12, Tryd.ntmps12
  go_upto_region 2 with (go_at_call 32; refine (example_any _).mono ?_; rintro e w1 ⟨gR, gL, gF, rfl, hR, hL, hF, hb1⟩; have HR := Lib.hid hR; have HL := Lib.hid hL; have HF := Lib.hid hF; have HB1 := Lib.hid hb1; clear hR hL hF hb1)
  obtain ⟨b, hb⟩ : ∃ b, w1.heap.size = b := ⟨_, rfl⟩
  obtain ⟨w2, hw2⟩ : ∃ w2, (w1.alloc (.cells #[.int .i64 1, .int .i64 1, .int .i64 0, .slice (some ⟨gR, 0, none⟩) 2 2] 24)).alloc (.cells #[.int .i64 3, .slice (some ⟨gL, 0, none⟩) 2 2, .slice (some ⟨gF, 0, none⟩) 3 3] 28) = w2 := ⟨_, rfl⟩
  have K0 : Blk w2 b 24 #[.int .i64 1, .int .i64 1, .int .i64 0, .slice (some ⟨gR, 0, none⟩) 2 2] := by rw [← hw2]; exact (Blk.new' _ _ _ hb).alloc _
  have K1 : Blk w2 (b + 1) 28 #[.int .i64 3, .slice (some ⟨gL, 0, none⟩) 2 2, .slice (some ⟨gF, 0, none⟩) 3 3] := by rw [← hw2]; exact Blk.new' _ _ _ (by simp; omega)
  have hb2 : Below w1.heap.size w1 w2 := by rw [← hw2]; exact ((Below.refl _ _).alloc (Nat.le_refl _) _).alloc (by simp) _
  rw [hb, hw2]
  have HB2 : Hid (Below w.heap.size w w2) := HB1.out.trans (hb2.mono HB1.out.size)
  have HK0 := Lib.hid K0
  have HK1 := Lib.hid K1
  have HBB : Hid (Below w1.heap.size w1 w2) := hb2
  have HBD : Hid (Calls Tryd.prog 14 #[.agg #[.int .i64 1, .int .i64 1, .int .i64 0, .slice (some ⟨gR, 0, none⟩) 2 2], .agg #[.int .i64 3, .slice (some ⟨gL, 0, none⟩) 2 2, .slice (some ⟨gF, 0, none⟩) 3 3]] w2 fun e w' => ∃ A c cs, e = .returned (.agg #[.int .i64 1, .int .i64 3, .slice A 6 c]) ∧ Reads w' w'.heap.size 4 A 6 (cls cs) ∧ Chart exR exL 1 3 cs ∧ Below w2.heap.size w2 w') :=
    (build_any w2 1 0 1 3 2 2 3 3 w1.heap.size (some ⟨gR, 0, none⟩) (some ⟨gL, 0, none⟩) (some ⟨gF, 0, none⟩) exR exL (HR.out.below hb2) (HL.out.below hb2) hb2.size (HG.out.below HB2.out HG.out.lt) exR_ok exL_ok (by decide) (by decide) (by decide) (by decide) (by decide)).mono
      fun e w' ⟨v, he, ⟨A, c, cs, hv, h1, h2, _⟩, h3⟩ => ⟨A, c, cs, by rw [he, hv]; rfl, h1, h2, h3⟩
  have n0 := K0.cell 0
  have n1 := K0.cell 1
  have n2 := K0.cell 2
  have n3 := K0.cell 3
  have l0 := K1.cell 0
  have l1 := K1.cell 1
  have l2 := K1.cell 2
  simp at n0 n1 n2 n3 l0 l1 l2
  clear hb hw2 K0 K1 hb2
  go_wp2_with fail
  refine HBD.out.mono ?_
  rintro e w3 ⟨A, c, cs, rfl, hA, hch, hb3⟩
  obtain ⟨b3, hb3e⟩ : ∃ b3, w3.heap.size = b3 := ⟨_, rfl⟩
  obtain ⟨w4, hw4⟩ : ∃ w4, w3.alloc (.cells #[.int .i64 1, .int .i64 3, .slice A 6 c] 34) = w4 := ⟨_, rfl⟩
  have hb4 : Below w3.heap.size w3 w4 := by rw [← hw4]; exact (Below.refl _ _).alloc (Nat.le_refl _) _
  have HB4 : Hid (Below w2.heap.size w2 w4) := hb3.trans (hb4.mono hb3.size)
  have HBW4 : Hid (Below w.heap.size w w4) := HB2.out.trans (HB4.out.mono HB2.out.size)
  have HK04 := Lib.hid (HK0.out.below HB4.out HK0.out.lt)
  have HK14 := Lib.hid (HK1.out.below HB4.out HK1.out.lt)
  have HK24 : Hid (Blk w4 b3 34 #[.int .i64 1, .int .i64 3, .slice A 6 c]) := by rw [← hw4]; exact Blk.new' _ _ _ hb3e
  have HA4 : Hid (Reads w4 w4.heap.size 4 A 6 (cls cs)) := (hA.below hb4).more hb4.size
  have HCH := Lib.hid hch
  have HG4 : Hid (NoneAt w4) := HG.out.below HBW4.out HG.out.lt
  have HF4 : Hid (Reads w4 w1.heap.size 1 (some ⟨gF, 0, none⟩) 3 (ints exF)) := (HF.out.below HBB.out).below (HB4.out.mono HBB.out.size)
  have HGL : Hid (Calls Tryd.prog 19 #[.agg #[.int .i64 1, .int .i64 1, .int .i64 0, .slice (some ⟨gR, 0, none⟩) 2 2], .agg #[.int .i64 3, .slice (some ⟨gL, 0, none⟩) 2 2, .slice (some ⟨gF, 0, none⟩) 3 3], .agg #[.int .i64 1, .int .i64 3, .slice A 6 c]] w4 fun e w' => e = .returned (.tuple #[.agg #[.int .i64 9, .int .i64 4], .int .i64 2]) ∧ Below w4.heap.size w4 w') := by
    have h := goal_any w4 1 0 1 3 2 2 2 2 3 3 6 c w4.heap.size (some ⟨gR, 0, none⟩) (some ⟨gL, 0, none⟩) (some ⟨gF, 0, none⟩) A exF cs (HF4.out.more (Nat.le_trans HBB.out.size HB4.out.size)) HA4.out (Nat.le_refl _) HG4.out (by decide) (by decide) (by decide) (by decide) (by intro f hf; simp only [exF, List.mem_cons, List.not_mem_nil, or_false] at hf; rcases hf with rfl | rfl | rfl <;> decide) (fun x => (atC_nrm HCH.out.nrm x).1)
    rw [ex_goal HCH.out] at h
    exact h
  have HAT : Hid (∀ (w9 : World) (x : It) (y : Cl), Below w4.heap.size w4 w9 → atC 1 3 cs x = y → Calls Tryd.prog 28 #[.agg #[.int .i64 1, .int .i64 3, .slice A 6 c], .agg #[.int .i64 x.h, .int .i64 x.f, .int .i64 x.t]] w9 fun e w' => e = .returned y.val ∧ Below w9.heap.size w9 w') := fun w9 x y h9 hy => by
    have h := at_any 1 3 6 c w4.heap.size A cs x w9 (HA4.out.below h9) h9.size (by decide) (by decide) (by decide) (HG4.out.below h9 HG4.out.lt)
    rw [hy] at h
    exact h
  have n0 := HK04.out.cell 0
  have n1 := HK04.out.cell 1
  have n2 := HK04.out.cell 2
  have n3 := HK04.out.cell 3
  have l0 := HK14.out.cell 0
  have l1 := HK14.out.cell 1
  have l2 := HK14.out.cell 2
  have c0 := HK24.out.cell 0
  have c1 := HK24.out.cell 1
  have c2 := HK24.out.cell 2
  simp at n0 n1 n2 n3 l0 l1 l2 c0 c1 c2
  have HW4 := Lib.hid hw4
  clear hw4
  go_upto_region 3 with fail
  try rw [hb3e]
  rw [HW4.out]
  clear HW4 hb3e hA hch hb3 hb4 HBD
  go_wp2_with fail
  refine HGL.out.mono ?_
  rintro e w5 ⟨rfl, hb5⟩
  obtain ⟨b5, hb5e⟩ : ∃ b5, w5.heap.size = b5 := ⟨_, rfl⟩
  obtain ⟨w6, hw6⟩ : ∃ w6, w5.alloc (.cells #[.int .i64 9, .int .i64 4] 45) = w6 := ⟨_, rfl⟩
  have hb6 : Below w5.heap.size w5 w6 := by rw [← hw6]; exact (Below.refl _ _).alloc (Nat.le_refl _) _
  have HB6 : Hid (Below w4.heap.size w4 w6) := hb5.trans (hb6.mono hb5.size)
  have HK36 : Hid (Blk w6 b5 45 #[.int .i64 9, .int .i64 4]) := by rw [← hw6]; exact Blk.new' _ _ _ hb5e
  have HK26 := Lib.hid (HK24.out.below HB6.out HK24.out.lt)
  clear n0 n1 n2 n3 l0 l1 l2 c0 c1 c2
  have c0 := HK26.out.cell 0
  have c1 := HK26.out.cell 1
  have c2 := HK26.out.cell 2
  simp at c0 c1 c2
  have HW6 := Lib.hid hw6
  clear hw6
  go_upto_region 4 with fail
  try rw [hb5e]
  rw [HW6.out]
  clear HW6 hb5e hb5 hb6 HGL
  have HAT0 := Lib.hid (HAT.out w6 ⟨1, 0, 0⟩ cnone HB6.out (by unfold atC; rw [if_neg (fun h => absurd h.1.2 (by decide))]))
  simp only [Cl.val, cnone, vtop] at HAT0
  go_wp2_with fail
  refine HAT0.out.mono ?_
  rintro e w7 ⟨rfl, hb7⟩
  obtain ⟨b7, hb7e⟩ : ∃ b7, w7.heap.size = b7 := ⟨_, rfl⟩
  obtain ⟨w8, hw8⟩ : ∃ w8, w7.alloc (.cells #[.int .i64 1099511627776, .int .i64 0, .int .i64 (-1), .int .i64 0] 47) = w8 := ⟨_, rfl⟩
  have hb8 : Below w7.heap.size w7 w8 := by rw [← hw8]; exact (Below.refl _ _).alloc (Nat.le_refl _) _
  have HB78 : Hid (Below w6.heap.size w6 w8) := hb7.trans (hb8.mono hb7.size)
  have HB8 : Hid (Below w4.heap.size w4 w8) := HB6.out.trans (HB78.out.mono HB6.out.size)
  have HK48 : Hid (Blk w8 b7 47 #[.int .i64 1099511627776, .int .i64 0, .int .i64 (-1), .int .i64 0]) := by rw [← hw8]; exact Blk.new' _ _ _ hb7e
  have HK28 := Lib.hid (HK26.out.below HB78.out HK26.out.lt)
  have HK38 := Lib.hid (HK36.out.below HB78.out HK36.out.lt)
  clear c0 c1 c2
  have c0 := HK28.out.cell 0
  have c1 := HK28.out.cell 1
  have c2 := HK28.out.cell 2
  simp at c0 c1 c2
  have HW8 := Lib.hid hw8
  clear hw8
  go_upto_region 5 with fail
  try rw [hb7e]
  rw [HW8.out]
  clear HW8 hb7e hb7 hb8 HAT0
  have HAT1 := Lib.hid (HAT.out w8 ⟨0, 0, 1⟩ _ HB8.out (ex_chart HCH.out).1)
  simp only [Cl.val] at HAT1
  go_wp2_with fail
  refine HAT1.out.mono ?_
  rintro e w9 ⟨rfl, hb9⟩
  have HB9 : Hid (Below w4.heap.size w4 w9) := HB8.out.trans (hb9.mono HB8.out.size)
  have HK29 := Lib.hid (HK28.out.below hb9 HK28.out.lt)
  have HK39 := Lib.hid (HK38.out.below hb9 HK38.out.lt)
  have HK49 := Lib.hid (HK48.out.below hb9 HK48.out.lt)
  have HAT2 := Lib.hid (HAT.out w9 ⟨0, 0, 2⟩ _ HB9.out (ex_chart HCH.out).2.1)
  simp only [Cl.val] at HAT2
  clear c0 c1 c2 hb9
  have c0 := HK29.out.cell 0
  have c1 := HK29.out.cell 1
  have c2 := HK29.out.cell 2
  simp at c0 c1 c2
  have q1 := eql_cl 2 1 0 0 2 1 0 0
  have q2 := eql_cl 4 3 1 1 4 3 1 1
  have q3 := eql_cl 1099511627776 0 (-1) 0 1099511627776 0 (-1) 0
  have q4 := run_eql_vl
  simp only [decide_true, Bool.and_self] at q1 q2 q3
  go_wp2_with fail
  refine HAT2.out.mono ?_
  rintro e w10 ⟨rfl, hb10⟩
  have HK310 := Lib.hid (HK39.out.below hb10 HK39.out.lt)
  have HK410 := Lib.hid (HK49.out.below hb10 HK49.out.lt)
  have HB10 : Hid (Below w4.heap.size w4 w10) := HB9.out.trans (hb10.mono HB9.out.size)
  have v0 := HK310.out.cell 0
  have v1 := HK310.out.cell 1
  have x0 := HK410.out.cell 0
  have x1 := HK410.out.cell 1
  have x2 := HK410.out.cell 2
  have x3 := HK410.out.cell 3
  simp at v0 v1 x0 x1 x2 x3
  clear c0 c1 c2 hb10
  go_wp2_with fail
  go_ret
  exact ⟨rfl, HBW4.out.trans (HB10.out.mono HBW4.out.size)⟩
end Go.Proofs.YthakcefgbggkcaaDoor
