/- Span. -/
import Derived.Test.YthakcefgbggkcaaDoorCMh
import Derived.StillTailTactics
namespace Go.Proofs.YthakcefgbggkcaaDoor
open Go.RowKit

theorem S10_alloc {w : World} {p0 p1 p2 p3 p4 p5 p6 p7 p8 p9 : Addr} {x0 x1 x2 x3 x4 x5 x6 x7 x8 x9 : Value} (h : w.cell? p0 = some x0 ∧ w.cell? p1 = some x1 ∧ w.cell? p2 = some x2 ∧ w.cell? p3 = some x3 ∧ w.cell? p4 = some x4 ∧ w.cell? p5 = some x5 ∧ w.cell? p6 = some x6 ∧ w.cell? p7 = some x7 ∧ w.cell? p8 = some x8 ∧ w.cell? p9 = some x9) (o : Obj) : (w.alloc o).cell? p0 = some x0 ∧ (w.alloc o).cell? p1 = some x1 ∧ (w.alloc o).cell? p2 = some x2 ∧ (w.alloc o).cell? p3 = some x3 ∧ (w.alloc o).cell? p4 = some x4 ∧ (w.alloc o).cell? p5 = some x5 ∧ (w.alloc o).cell? p6 = some x6 ∧ (w.alloc o).cell? p7 = some x7 ∧ (w.alloc o).cell? p8 = some x8 ∧ (w.alloc o).cell? p9 = some x9 :=
  have f : ∀ {p : Addr} {x : Value}, w.cell? p = some x → (w.alloc o).cell? p = some x := fun h => (World.cell?_alloc_lt w o _ (World.block_lt_of_cell? w _ h)).trans h
  ⟨f h.1, f h.2.1, f h.2.2.1, f h.2.2.2.1, f h.2.2.2.2.1, f h.2.2.2.2.2.1, f h.2.2.2.2.2.2.1, f h.2.2.2.2.2.2.2.1, f h.2.2.2.2.2.2.2.2.1, f h.2.2.2.2.2.2.2.2.2⟩
theorem S10_alloc_drew {w : World} {p0 p1 p2 p3 p4 p5 p6 p7 p8 p9 : Addr} {x0 x1 x2 x3 x4 x5 x6 x7 x8 x9 : Value} (h : w.cell? p0 = some x0 ∧ w.cell? p1 = some x1 ∧ w.cell? p2 = some x2 ∧ w.cell? p3 = some x3 ∧ w.cell? p4 = some x4 ∧ w.cell? p5 = some x5 ∧ w.cell? p6 = some x6 ∧ w.cell? p7 = some x7 ∧ w.cell? p8 = some x8 ∧ w.cell? p9 = some x9) (o : Obj) : (w.alloc o).drew.cell? p0 = some x0 ∧ (w.alloc o).drew.cell? p1 = some x1 ∧ (w.alloc o).drew.cell? p2 = some x2 ∧ (w.alloc o).drew.cell? p3 = some x3 ∧ (w.alloc o).drew.cell? p4 = some x4 ∧ (w.alloc o).drew.cell? p5 = some x5 ∧ (w.alloc o).drew.cell? p6 = some x6 ∧ (w.alloc o).drew.cell? p7 = some x7 ∧ (w.alloc o).drew.cell? p8 = some x8 ∧ (w.alloc o).drew.cell? p9 = some x9 := S10_alloc h o
theorem S10_set {w : World} {p0 p1 p2 p3 p4 p5 p6 p7 p8 p9 : Addr} {x0 x1 x2 x3 x4 x5 x6 x7 x8 x9 : Value} (h : w.cell? p0 = some x0 ∧ w.cell? p1 = some x1 ∧ w.cell? p2 = some x2 ∧ w.cell? p3 = some x3 ∧ w.cell? p4 = some x4 ∧ w.cell? p5 = some x5 ∧ w.cell? p6 = some x6 ∧ w.cell? p7 = some x7 ∧ w.cell? p8 = some x8 ∧ w.cell? p9 = some x9) (q : Addr) (v : Value) (hn : p0.block ≠ q.block ∧ p1.block ≠ q.block ∧ p2.block ≠ q.block ∧ p3.block ≠ q.block ∧ p4.block ≠ q.block ∧ p5.block ≠ q.block ∧ p6.block ≠ q.block ∧ p7.block ≠ q.block ∧ p8.block ≠ q.block ∧ p9.block ≠ q.block) : (w.setCell q v).cell? p0 = some x0 ∧ (w.setCell q v).cell? p1 = some x1 ∧ (w.setCell q v).cell? p2 = some x2 ∧ (w.setCell q v).cell? p3 = some x3 ∧ (w.setCell q v).cell? p4 = some x4 ∧ (w.setCell q v).cell? p5 = some x5 ∧ (w.setCell q v).cell? p6 = some x6 ∧ (w.setCell q v).cell? p7 = some x7 ∧ (w.setCell q v).cell? p8 = some x8 ∧ (w.setCell q v).cell? p9 = some x9 :=
  have f : ∀ {p : Addr} {x : Value}, p.block ≠ q.block → w.cell? p = some x → (w.setCell q v).cell? p = some x := fun hn h => (World.cell?_setCell_far _ _ _ _ (fun e => hn e.symm)).trans h
  ⟨f hn.1 h.1, f hn.2.1 h.2.1, f hn.2.2.1 h.2.2.1, f hn.2.2.2.1 h.2.2.2.1, f hn.2.2.2.2.1 h.2.2.2.2.1, f hn.2.2.2.2.2.1 h.2.2.2.2.2.1, f hn.2.2.2.2.2.2.1 h.2.2.2.2.2.2.1, f hn.2.2.2.2.2.2.2.1 h.2.2.2.2.2.2.2.1, f hn.2.2.2.2.2.2.2.2.1 h.2.2.2.2.2.2.2.2.1, f hn.2.2.2.2.2.2.2.2.2 h.2.2.2.2.2.2.2.2.2⟩
theorem S10_set_drew {w : World} {p0 p1 p2 p3 p4 p5 p6 p7 p8 p9 : Addr} {x0 x1 x2 x3 x4 x5 x6 x7 x8 x9 : Value} (h : w.cell? p0 = some x0 ∧ w.cell? p1 = some x1 ∧ w.cell? p2 = some x2 ∧ w.cell? p3 = some x3 ∧ w.cell? p4 = some x4 ∧ w.cell? p5 = some x5 ∧ w.cell? p6 = some x6 ∧ w.cell? p7 = some x7 ∧ w.cell? p8 = some x8 ∧ w.cell? p9 = some x9) (q : Addr) (v : Value) (hn : p0.block ≠ q.block ∧ p1.block ≠ q.block ∧ p2.block ≠ q.block ∧ p3.block ≠ q.block ∧ p4.block ≠ q.block ∧ p5.block ≠ q.block ∧ p6.block ≠ q.block ∧ p7.block ≠ q.block ∧ p8.block ≠ q.block ∧ p9.block ≠ q.block) : (w.setCell q v).drew.cell? p0 = some x0 ∧ (w.setCell q v).drew.cell? p1 = some x1 ∧ (w.setCell q v).drew.cell? p2 = some x2 ∧ (w.setCell q v).drew.cell? p3 = some x3 ∧ (w.setCell q v).drew.cell? p4 = some x4 ∧ (w.setCell q v).drew.cell? p5 = some x5 ∧ (w.setCell q v).drew.cell? p6 = some x6 ∧ (w.setCell q v).drew.cell? p7 = some x7 ∧ (w.setCell q v).drew.cell? p8 = some x8 ∧ (w.setCell q v).drew.cell? p9 = some x9 := S10_set h q v hn

abbrev BoxS (w : World) (bn bl bc : Nat) (T : Int) (N : Nat) (st : Int) (RA : Option Addr) (nR rc S : Nat) (LA : Option Addr) (nL lc : Nat) (FA : Option Addr) (nf fc : Nat) (CA : Option Addr) (nC cc : Nat) : Prop :=
  w.cell? ⟨bn, 0, none⟩ = some (.int .i64 T) ∧ w.cell? ⟨bn, 1, none⟩ = some (.int .i64 N) ∧ w.cell? ⟨bn, 2, none⟩ = some (.int .i64 st) ∧ w.cell? ⟨bn, 3, none⟩ = some (.slice RA nR rc) ∧ w.cell? ⟨bl, 0, none⟩ = some (.int .i64 S) ∧ w.cell? ⟨bl, 1, none⟩ = some (.slice LA nL lc) ∧ w.cell? ⟨bl, 2, none⟩ = some (.slice FA nf fc) ∧ w.cell? ⟨bc, 0, none⟩ = some (.int .i64 N) ∧ w.cell? ⟨bc, 1, none⟩ = some (.int .i64 S) ∧ w.cell? ⟨bc, 2, none⟩ = some (.slice CA nC cc)
set_option maxRecDepth 100000 in
set_option maxHeartbeats 20000000 in
theorem span_any (w : World) (a : SP) (ok : a.Ok) (ha : a.base = w.heap.size) (rR : Reads w a.base 6 a.RA a.R.length (rls a.R)) (rL : Reads w a.base 5 a.LA a.L.length (ars a.L)) (rC : Reads w a.base 4 a.CA a.cs.length (cls a.cs)) (g : NoneAt w) :
    Calls Tryd.prog 23 #[.agg #[.int .i64 a.T, .int .i64 a.N, .int .i64 a.st, .slice a.RA a.R.length a.rc], .agg #[.int .i64 a.S, .slice a.LA a.L.length a.lc, .slice a.FA a.nf a.fc], .agg #[.int .i64 a.N, .int .i64 a.S, .slice a.CA a.cs.length a.cc], .int .i64 a.s, .int .i64 a.t] w (SpanPost a w) := by
  have HMADE : Hid (∀ (w1 w2 w3 : World) (cb sp bb fb hb q : Nat) (F : Nat → Prop) (K : Array Value), w1.heap.size = w.heap.size + 3 → Below w.heap.size w w1 → Blk w1 w.heap.size 24 K → Parts w1 w2 (a.put w.heap.size sp cb bb fb hb 0) → QB w3 w2.heap.size cb q F [] 0 0 → Below w2.heap.size w2 w3 →
      SpanMade w (w3.setCell ⟨sp, 15, none⟩ (.pointer (some ⟨q, 0, none⟩))) a (a.put w.heap.size sp cb bb fb hb q) F w.heap.size cb K) := fun w1 w2 w3 cb sp bb fb hb q F K h1 h2 h3 h4 h5 h6 =>
    span_made ok rfl ha h1 h2 h3 (by rw [← ha]; exact rR) (by rw [← ha]; exact rL) (by rw [← ha]; exact rC) g h4 h5 h6
  have HPOST : Hid (∀ e w', SpanPost a w e w' → SpanPost a w e w') := fun _ _ h => h
  clear rR rL rC g
  have hN1 := ok.N1
  have HOK := Lib.hid ok
  clear ok
  obtain ⟨T, hT⟩ : ∃ T, a.T = T := ⟨_, rfl⟩
  obtain ⟨N, hN⟩ : ∃ N, a.N = N := ⟨_, rfl⟩
  obtain ⟨st, hst⟩ : ∃ st, a.st = st := ⟨_, rfl⟩
  obtain ⟨RA, hRA⟩ : ∃ RA, a.RA = RA := ⟨_, rfl⟩
  obtain ⟨nR, hnR⟩ : ∃ nR, a.R.length = nR := ⟨_, rfl⟩
  obtain ⟨rc, hrc⟩ : ∃ rc, a.rc = rc := ⟨_, rfl⟩
  obtain ⟨S, hS⟩ : ∃ S, a.S = S := ⟨_, rfl⟩
  obtain ⟨LA, hLA⟩ : ∃ LA, a.LA = LA := ⟨_, rfl⟩
  obtain ⟨nL, hnL⟩ : ∃ nL, a.L.length = nL := ⟨_, rfl⟩
  obtain ⟨lc, hlc⟩ : ∃ lc, a.lc = lc := ⟨_, rfl⟩
  obtain ⟨FA, hFA⟩ : ∃ FA, a.FA = FA := ⟨_, rfl⟩
  obtain ⟨nf, hnf⟩ : ∃ nf, a.nf = nf := ⟨_, rfl⟩
  obtain ⟨fc, hfc⟩ : ∃ fc, a.fc = fc := ⟨_, rfl⟩
  obtain ⟨CA, hCA⟩ : ∃ CA, a.CA = CA := ⟨_, rfl⟩
  obtain ⟨nC, hnC⟩ : ∃ nC, a.cs.length = nC := ⟨_, rfl⟩
  obtain ⟨cc, hcc⟩ : ∃ cc, a.cc = cc := ⟨_, rfl⟩
  obtain ⟨s, hs⟩ : ∃ s, a.s = s := ⟨_, rfl⟩
  obtain ⟨t, ht⟩ : ∃ t, a.t = t := ⟨_, rfl⟩
  have HC0 : Hid (∀ base sp cb bb fb hb : Nat, (a.put base sp cb bb fb hb 0).cells0 = #[.int .i64 T, .int .i64 N, .int .i64 st, .slice RA nR rc, .int .i64 S, .slice LA nL lc, .slice FA nf fc, .int .i64 N, .int .i64 S, .slice CA nC cc,
    .int .i64 s, .int .i64 t, .slice (some ⟨bb, 0, none⟩) N N, .slice (some ⟨fb, 0, none⟩) N N, .slice (some ⟨hb, 0, none⟩) N N, .pointer none]) := fun base sp cb bb fb hb => by
    unfold SP.cells0 SP.put
    simp only [hT, hN, hst, hRA, hnR, hrc, hS, hLA, hnL, hlc, hFA, hnf, hfc, hCA, hnC, hcc, hs, ht]
  rw [hT, hN, hst, hRA, hnR, hrc, hS, hLA, hnL, hlc, hFA, hnf, hfc, hCA, hnC, hcc, hs, ht]
  rw [hN] at hN1
  have HNR := Lib.hid hnR
  have HRAE := Lib.hid hRA
  have hnr6 : nR ≤ 600 := by rw [← hnR]; exact HOK.out.nR
  have HN := Lib.hid hN
  have hv := run_make_vls N (by omega)
  have hb := mk_bools N (by omega)
  have ho := mk_ints N (by omega)
  clear hT hN hst hRA hnR hrc hS hLA hnL hlc hFA hnf hfc hCA hnC hcc hs ht
  go_enter Tryd.func23, Tryd.ntmps23
  go_upto_region 1 with fail
  obtain ⟨w1, hw1⟩ : ∃ w1, ((w.alloc (.cells #[.int .i64 T, .int .i64 N, .int .i64 st, .slice RA nR rc] 24)).alloc (.cells #[.int .i64 S, .slice LA nL lc, .slice FA nf fc] 28)).alloc (.cells #[.int .i64 N, .int .i64 S, .slice CA nC cc] 34) = w1 := ⟨_, rfl⟩
  have K1 : Blk w1 w.heap.size 24 #[.int .i64 T, .int .i64 N, .int .i64 st, .slice RA nR rc] := by rw [← hw1]; exact ((Blk.new' w _ _ rfl).alloc _).alloc _
  have K2 : Blk w1 (w.heap.size + 1) 28 #[.int .i64 S, .slice LA nL lc, .slice FA nf fc] := by rw [← hw1]; exact (Blk.new' _ _ _ (by simp)).alloc _
  have K3 : Blk w1 (w.heap.size + 2) 34 #[.int .i64 N, .int .i64 S, .slice CA nC cc] := by rw [← hw1]; exact Blk.new' _ _ _ (by simp)
  have hb1 : Below w.heap.size w w1 := by rw [← hw1]; exact (((Below.refl _ _).alloc (Nat.le_refl _) _).alloc (by simp) _).alloc (by simp; omega) _
  have hs1 : w1.heap.size = w.heap.size + 3 := by rw [← hw1]; simp
  rw [hw1]
  clear hw1
  have HB1 := Lib.hid hb1
  obtain ⟨bn, hbn⟩ : ∃ bn, w.heap.size = bn := ⟨_, rfl⟩
  have HBN := Lib.hid hbn
  have HSZ : Hid (w1.heap.size = w.heap.size + 3) := hs1
  have HS0 : Hid (BoxS w1.drew bn (bn + 1) (bn + 2) T N st RA nR rc S LA nL lc FA nf fc CA nC cc) := by
    rw [← hbn]
    exact ⟨K1.cell 0, K1.cell 1, K1.cell 2, K1.cell 3, K2.cell 0, K2.cell 1, K2.cell 2, K3.cell 0, K3.cell 1, K3.cell 2⟩
  have HS1 : Hid (BoxS w1 bn (bn + 1) (bn + 2) T N st RA nR rc S LA nL lc FA nf fc CA nC cc) := HS0
  rw [hbn] at K1 K2 K3 hs1
  rw [hbn]
  have HK1 := Lib.hid K1
  clear K1 K2 K3 hb1 hbn
  go_cut [11] (fun x11 wx => ∃ cb : Nat, x11 = .pointer (some ⟨cb, 0, none⟩) ∧ PartsPut w1 wx a bn cb)
  case first =>
    go_region_held3 (fun w' => w'.cell? ⟨bn, 0, none⟩ = some (.int .i64 T) ∧ w'.cell? ⟨bn, 1, none⟩ = some (.int .i64 N) ∧ w'.cell? ⟨bn, 2, none⟩ = some (.int .i64 st) ∧ w'.cell? ⟨bn, 3, none⟩ = some (.slice RA nR rc) ∧ w'.cell? ⟨bn + 1, 0, none⟩ = some (.int .i64 S) ∧ w'.cell? ⟨bn + 1, 1, none⟩ = some (.slice LA nL lc) ∧ w'.cell? ⟨bn + 1, 2, none⟩ = some (.slice FA nf fc) ∧ w'.cell? ⟨bn + 2, 0, none⟩ = some (.int .i64 N) ∧ w'.cell? ⟨bn + 2, 1, none⟩ = some (.int .i64 S) ∧ w'.cell? ⟨bn + 2, 2, none⟩ = some (.slice CA nC cc))
      (first | with_reducible exact HS0.out | (refine S10_alloc ?_ _; assumption) | (refine S10_alloc_drew ?_ _; assumption) | (((first | with_reducible refine S10_set_drew ?_ _ _ ?hn | with_reducible refine S10_set ?_ _ _ ?hn | with_reducible refine S10_alloc_drew ?_ _) <;> (repeat (first | with_reducible refine S10_alloc ?_ _ | with_reducible exact HS1.out))) <;> (dsimp only; simp only [World.size_alloc]; omega))) (fail)
    all_goals
      go_wp2_with fail
      go_meet
      refine parts_leaf4 HN.out HC0.out ?_
      apply Exists.intro
      apply Exists.intro
      apply Exists.intro
      apply Exists.intro
      refine' And.intro (Blk.drew1 ?_) (And.intro (Blk.drew1 ?_) (And.intro (Blk.drew1 ?_) (And.intro (Blk.drew1 ?_) (And.intro (Blk.drew1 ?_) (And.intro ?_ (below_drew1 ?_))))))
      · first
          | (with_reducible refine' Blk.set1 (x := .pointer none) ?_ _
             repeat (first | (with_reducible refine Blk.new' _ _ _ ?_; (first | omega | (simp only [World.size_alloc]; omega) | (simp; omega))) | refine Blk.alloc ?_ _))
          | (repeat (first | (with_reducible refine Blk.new' _ _ _ ?_; (first | omega | (simp only [World.size_alloc]; omega) | (simp; omega))) | refine Blk.alloc ?_ _))
      · (first | (with_reducible refine Blk.far ?_ (by dsimp only; omega) _) | skip); repeat (first | (with_reducible refine Blk.new' _ _ _ ?_; (first | omega | (simp only [World.size_alloc]; omega) | (simp; omega))) | refine Blk.alloc ?_ _)
      · (first | (with_reducible refine Blk.far ?_ (by dsimp only; omega) _) | skip); repeat (first | (with_reducible refine Blk.new' _ _ _ ?_; (first | omega | (simp only [World.size_alloc]; omega) | (simp; omega))) | refine Blk.alloc ?_ _)
      · (first | (with_reducible refine Blk.far ?_ (by dsimp only; omega) _) | skip); repeat (first | (with_reducible refine Blk.new' _ _ _ ?_; (first | omega | (simp only [World.size_alloc]; omega) | (simp; omega))) | refine Blk.alloc ?_ _)
      · (first | (with_reducible refine Blk.far ?_ (by dsimp only; omega) _) | skip); repeat (first | (with_reducible refine Blk.new' _ _ _ ?_; (first | omega | (simp only [World.size_alloc]; omega) | (simp; omega))) | refine Blk.alloc ?_ _)
      · omega
      · repeat (first | exact Below.refl _ _ | (with_reducible refine Below.alloc ?_ (by first | omega | (simp only [World.size_alloc]; omega)) _) | (with_reducible refine Below.setCell ?_ (by dsimp only; omega) _))
  case rest =>
    clear hv hb ho HS0 HS1 HC0
    obtain ⟨cb, rfl, sp, bb, fb, hb, hP⟩ := hcut
    rename World => w2
    have nsc : ¬ sp = cb := fun e => Blk.ne_ hP.kC hP.kS (by decide) e.symm
    have hspl : sp < w2.heap.size := hP.kS.lt
    have q0 : w2.cell? ⟨cb, 0, none⟩ = some (.pointer (some ⟨sp, 0, none⟩)) := hP.kC.cell 0
    have HP := Lib.hid hP
    have HS2 : Hid (w2.drew.cell? ⟨cb, 0, none⟩ = some (.pointer (some ⟨sp, 0, none⟩))) := q0
    have hmf : ∀ (fn : Fn) (first cap : Array Value) (w : World), (Instr.makeFunc fn first cap).run Tryd.prog w = .ok (.func fn first cap) w := fun _ _ _ _ => rfl
    clear hP q0 hs1
    go_upto_region 2 with fail
    go_cut [35] (fun x35 wx => ∃ (a' : SP) (F : Nat → Prop), x35 = .pointer (some ⟨a'.q, 0, none⟩) ∧ SpanMade w wx a a' F bn cb #[.int .i64 T, .int .i64 N, .int .i64 st, .slice RA nR rc])
    case first =>
      go_region_held3 (fun w' => w'.cell? ⟨cb, 0, none⟩ = some (.pointer (some ⟨sp, 0, none⟩)))
        (first | with_reducible exact HS2.out | with_reducible exact HS3.out | with_reducible exact HS4.out | with_reducible exact HS5.out)
        (first | (go_at_call 43; (with_reducible refine (newq_any cb _).mono ?_); rintro e3 w3 ⟨rfl, hq3, hb0⟩; have HQ3 : Hid (∃ F, QB w3 w2.heap.size cb (w2.heap.size + 1) F [] 0 0) := hq3; have hb3 : Below w2.heap.size w2 w3 := ((Below.refl _ _).drew).trans hb0; have HB3 := Lib.hid hb3; have c15 : w3.cell? ⟨sp, 15, none⟩ = some (.pointer none) := (HP.out.kS.below hb3 hspl).cell 15; have z15 : w3.frozen? ⟨sp, 15, none⟩ = false := (HP.out.kS.below hb3 hspl).frozen 15; have HS3 : Hid (w3.cell? ⟨cb, 0, none⟩ = some (.pointer (some ⟨sp, 0, none⟩))) := (HP.out.kC.below hb3 HP.out.kC.lt).cell 0; have HS4 : Hid ((w3.setCell ⟨sp, 15, none⟩ (.pointer (some ⟨w2.drew.heap.size + 1, 0, none⟩))).cell? ⟨cb, 0, none⟩ = some (.pointer (some ⟨sp, 0, none⟩))) := (World.cell?_setCell_far _ _ _ _ nsc).trans HS3.out; have HS5 : Hid ((w3.setCell ⟨sp, 15, none⟩ (.pointer (some ⟨w2.heap.size + 1, 0, none⟩))).cell? ⟨cb, 0, none⟩ = some (.pointer (some ⟨sp, 0, none⟩))) := HS4.out; clear hq3 hb0 hb3))
      all_goals
        go_wp2_with fail
        go_meet
        obtain ⟨F, hF⟩ := HQ3.out
        refine ⟨a.put bn sp cb bb fb hb (w2.heap.size + 1), F, rfl, ?_⟩
        have := HMADE.out w1 w2 w3 cb sp bb fb hb (w2.heap.size + 1) F _ HSZ.out HB1.out (by rw [HBN.out]; exact HK1.out) (by rw [HBN.out]; exact HP.out) hF HB3.out
        rw [HBN.out] at this
        exact this
    case rest =>
      obtain ⟨a', F, rfl, hM⟩ := hcut
      rename World => w3
      clear HS2 hmf nsc hspl HP HMADE HSZ HK1 HB1 HPOST
      have HOK' := Lib.hid hM.ok
      have HSM0 : Hid (SM w3 a' F (vini N 0) (List.replicate N false) (eini N 0) [] 0 0) := by
        have := hM.sm
        rw [HN.out] at this
        have e1 : vini N 0 = List.replicate N ⟨0, 0⟩ := by simp [vini]
        have e2 : eini N 0 = List.replicate N 0 := by simp [eini]
        rw [e1, e2]
        exact this
      have HKN0 := Lib.hid hM.kN
      have HMB := Lib.hid hM.mine
      have HBW0 := Lib.hid hM.below
      have HPOST := Lib.hid hM.post
      have HAB : Hid (a'.base = bn) := hM.eb
      have HAN : Hid (a'.N = N) := hM.eN.trans HN.out
      have HAR : Hid (a'.R.length = nR) := by rw [hM.eR]; exact HNR.out
      have HARA : Hid (a'.RA = RA) := hM.eA.trans HRAE.out
      have ecb := hM.ec
      clear hM
      subst ecb
      have s0 : w3.cell? ⟨a'.cb, 0, none⟩ = some (.pointer (some ⟨a'.sp, 0, none⟩)) := HSM0.out.kC.1.cell 0
      have q12 : w3.cell? ⟨a'.sp, 12, none⟩ = some (.slice (some ⟨a'.bb, 0, none⟩) N N) := by have := HSM0.out.rd.kS.cell 12; simp [SP.cells] at this; rw [HAN.out] at this; exact this
      go_upto_region 3 with fail
      go_wp2_with fail
      go_loopw [43] (fun x wr => ∃ i : Nat, i ≤ N ∧ x = .int .i64 i ∧ Hid (SM wr a' F (vini N i) (List.replicate N false) (eini N i) [] 0 0) ∧ Hid (Blk wr bn 24 #[.int .i64 T, .int .i64 N, .int .i64 st, .slice RA nR rc]) ∧ Hid (Below w.heap.size w wr)) (fun x _ => N - (intOf x).toNat)
      case atStart => exact ⟨0, Nat.zero_le _, rfl, HSM0, HKN0, HBW0⟩
      case round =>
        obtain ⟨i, hi, rfl, HSMR, HKNR, HBR⟩ := hrel
        clear HSM0 HKN0 HBW0 s0 q12
        by_cases hlt : i < N
        case pos => as_aux_lemma =>
          have hltD : decide (i < N) = true := by simp [hlt]
          have s0 : wr.cell? ⟨a'.cb, 0, none⟩ = some (.pointer (some ⟨a'.sp, 0, none⟩)) := HSMR.out.kC.1.cell 0
          have q12 : wr.cell? ⟨a'.sp, 12, none⟩ = some (.slice (some ⟨a'.bb, 0, none⟩) N N) := by have := HSMR.out.rd.kS.cell 12; simp [SP.cells] at this; rw [HAN.out] at this; exact this
          have q14 : wr.cell? ⟨a'.sp, 14, none⟩ = some (.slice (some ⟨a'.hb, 0, none⟩) N N) := by have := HSMR.out.rd.kS.cell 14; simp [SP.cells] at this; rw [HAN.out] at this; exact this
          obtain ⟨vi, hvi⟩ : ∃ vi, (vini N i)[i]? = some vi := ⟨_, List.getElem?_eq_getElem (by rw [vini_len hi]; exact hlt)⟩
          obtain ⟨v0, v1⟩ := HSMR.out.kV.1.vl_at hvi
          have z0 := HSMR.out.kV.1.frozen (i * 2)
          have z1 := HSMR.out.kV.1.frozen (i * 2 + 1)
          obtain ⟨ei, hei⟩ : ∃ ei, (eini N i)[i]? = some ei := ⟨_, List.getElem?_eq_getElem (by rw [eini_len hi]; exact hlt)⟩
          obtain ⟨g0, g1, _⟩ := HSMR.out.rd.g
          have hb1 : w.heap.size ≤ a'.bb := by rw [HBN.out, ← HAB.out]; exact HSMR.out.lo.2.2.1
          have hb2 : w.heap.size ≤ a'.hb := by rw [HBN.out, ← HAB.out]; exact HSMR.out.lo.2.2.2.2
          have hsv := HSMR.out.setV HOK'.out.g (k := i) (by rw [HAN.out]; exact hlt) vtop
          have hv2 : (vini N i).set i vtop = vini N (i + 1) := ini_set hlt
          have he2 : (eini N i).set i (-1) = eini N (i + 1) := ini_set hlt
          rw [hv2] at hsv
          have HSM6 : Hid (SM (World.drew ((wr.setCell ⟨a'.bb, i * 2, none⟩ (.int .i64 1099511627776)).setCell ⟨a'.bb, i * 2 + 1, none⟩ (.int .i64 0))) a' F (vini N (i + 1)) (List.replicate N false) (eini N i) [] 0 0) := hsv.below (Below.refl _ _).drew HOK'.out.g
          have HK6 : Hid (Blk (World.drew ((wr.setCell ⟨a'.bb, i * 2, none⟩ (.int .i64 1099511627776)).setCell ⟨a'.bb, i * 2 + 1, none⟩ (.int .i64 0))) bn 24 #[.int .i64 T, .int .i64 N, .int .i64 st, .slice RA nR rc]) :=
            ((HKNR.out.far (p := ⟨a'.bb, i * 2, none⟩) HMB.out.2.1 _).far (p := ⟨a'.bb, i * 2 + 1, none⟩) HMB.out.2.1 _).drew1
          have HB6 : Hid (Below w.heap.size w (World.drew ((wr.setCell ⟨a'.bb, i * 2, none⟩ (.int .i64 1099511627776)).setCell ⟨a'.bb, i * 2 + 1, none⟩ (.int .i64 0)))) :=
            below_drew1 ((HBR.out.setCell (p := ⟨a'.bb, i * 2, none⟩) hb1 _).setCell (p := ⟨a'.bb, i * 2 + 1, none⟩) hb1 _)
          clear hsv hv2 hvi
          go_upto_region 6 with fail
          go_still_tail 8, (by kernel_rfl)
          change wpList _ _ _ _ _ wr.drew
          go_upto_region 7 with fail
          clear s0 q12 q14 v0 v1 z0 z1 g0 g1
          generalize (World.drew ((wr.setCell ⟨a'.bb, i * 2, none⟩ (.int .i64 1099511627776)).setCell ⟨a'.bb, i * 2 + 1, none⟩ (.int .i64 0))) = w6 at HSM6 HK6 HB6 ⊢
          have s0 : w6.cell? ⟨a'.cb, 0, none⟩ = some (.pointer (some ⟨a'.sp, 0, none⟩)) := HSM6.out.kC.1.cell 0
          have q14 : w6.cell? ⟨a'.sp, 14, none⟩ = some (.slice (some ⟨a'.hb, 0, none⟩) N N) := by have := HSM6.out.rd.kS.cell 14; simp [SP.cells] at this; rw [HAN.out] at this; exact this
          have x0 := HSM6.out.hand_at hei
          have y0 := HSM6.out.kH.1.frozen i
          have HSM7 := Lib.hid (HSM6.out.setH HOK'.out.g i (-1))
          rw [he2] at HSM7
          have HK7 := Lib.hid (HK6.out.far (p := ⟨a'.hb, i, none⟩) HMB.out.2.2.2 (.int .i64 (-1)))
          have HB7 := Lib.hid (HB6.out.setCell (p := ⟨a'.hb, i, none⟩) hb2 (.int .i64 (-1)))
          clear hei he2 HSMR HKNR HBR
          go_wp2_with fail
          go_roundw
          case rel => exact ⟨i + 1, by omega, by go_num, HSM7, HK7, HB7⟩
          case measure => simp [intOf]; omega
        case neg =>
          have hltD : decide (i < N) = false := by simp [hlt]
          obtain rfl : N = i := by omega
          clear hlt hi
          have evi : vini N N = List.replicate N vtop := by simp [vini]
          have eei : eini N N = List.replicate N (-1) := by simp [eini]
          rw [evi, eei] at HSMR
          clear evi eei
          have HST0 : Hid (ST wr a' F (List.replicate N vtop) (List.replicate N false) 0) := by
            have h := HSMR.out
            have e := HAN.out
            rw [← e] at h ⊢
            exact start_st h
          clear HSMR
          have n3 := HKNR.out.cell 3
          simp at n3
          go_wp2_with fail
          rename World => w5
          have HS10 : Hid (S1 a'.R a'.L a'.N a'.s a'.t a'.C (List.replicate N vtop) 0 []) := by
            rw [← HAN.out]
            exact S1.start _ _ _ _ _ _
          go_loopw [64] (fun x wr => ∃ k : Nat, k ≤ nR ∧ x = .int .i64 k ∧ ∃ (G : Nat → Prop) (V : List Vl) (m : Nat), Hid (m ≤ 10000 * k) ∧ Hid (ST wr a' G V (List.replicate N false) m) ∧ Hid (S1 a'.R a'.L a'.N a'.s a'.t a'.C V k []) ∧ Hid (Blk wr bn 24 #[.int .i64 T, .int .i64 N, .int .i64 st, .slice RA nR rc]) ∧ Hid (Mine a' G bn) ∧ Hid (Below w.heap.size w wr)) (fun x _ => nR - (intOf x).toNat)
          case atStart => exact ⟨0, Nat.zero_le _, rfl, F, _, 0, Lib.hid (Nat.zero_le _), HST0, HS10, HKNR, HMB, HBR⟩
          case round =>
            obtain ⟨k, hk, rfl, G, V, m, HMk, HSTk, HS1k, HKk, HMbk, HBk⟩ := hrel
            clear HST0 HS10 HKNR HMB HBR n3
            by_cases hlt : k < nR
            case pos => as_aux_lemma =>
              have hltD : decide (k < nR) = true := by simp [hlt]
              obtain ⟨b, off, r, hA, hbB, hr, p0, p1, p2, p3, p4, p5⟩ := HSTk.out.rd.rR.rl_at (k := k) (by rw [HAR.out]; exact hlt)
              rw [HARA.out] at hA
              have hrok := HOK'.out.R r (List.mem_of_getElem? hr)
              have HRR := Lib.hid (And.intro hr hrok)
              obtain ⟨w6, hw6⟩ : ∃ w6, wr.alloc (.cells #[.int .i64 r.k, .int .i64 r.hd, .int .i64 r.a, .int .i64 r.b, .int .i64 r.p, .int .i64 r.o] 65) = w6 := ⟨_, rfl⟩
              have hb6 : Below wr.heap.size wr w6 := by rw [← hw6]; exact (Below.refl _ _).alloc (Nat.le_refl _) _
              obtain ⟨br, hbr⟩ : ∃ br, wr.heap.size = br := ⟨_, rfl⟩
              have hK6 : Blk w6 br 65 r.arr := by rw [← hw6]; exact Blk.new' wr _ _ hbr
              have HW6 := Lib.hid hw6
              have HB6 := Lib.hid hb6
              have HR6 := Lib.hid hK6
              have HST6 := Lib.hid (HSTk.out.below hb6 HOK'.out.g)
              have HK6 := Lib.hid (HKk.out.below hb6 HKk.out.lt)
              have HBW6 := Lib.hid (HBk.out.trans (hb6.mono HBk.out.size))
              have hMr : Mine a' G br := by
                obtain ⟨q1, q2, _⟩ := HSTk.out.lt
                exact ⟨fun hf => by have := (q1 _ hf).2; omega, by omega, by omega, by omega⟩
              have HMR := Lib.hid hMr
              have hcnt := insts_cnt HOK'.out r
              have hm1 := HMk.out
              have HINS := Lib.hid (ins_any w6 r G HOK'.out hrok (cb1 a' HOK'.out k r br m hr (by omega)) (⟨V, m, by rw [HAN.out]; exact HST6.out, HS1k.out, Nat.le_refl _, hK6, hMr⟩ : I1 a' k r br m [] G w6))
              have HCNT : Hid (m + (insts a'.L a'.s a'.t r).length ≤ 10000 * (k + 1)) := by show _ ≤ _; omega
              have q0 := hK6.cell 0
              have q1 := hK6.cell 1
              have q2 := hK6.cell 2
              have q3 := hK6.cell 3
              have q4 := hK6.cell 4
              have q5 := hK6.cell 5
              simp [Rl.arr] at q0 q1 q2 q3 q4 q5
              simp only [Rl.val] at HINS
              have s0 := HST6.out.cb
              have hmf : ∀ (fn : Fn) (first cap : Array Value) (w : World), (Instr.makeFunc fn first cap).run Tryd.prog w = .ok (.func fn first cap) w := fun _ _ _ _ => rfl
              have HAE := Lib.hid hA
              rw [hA]
              clear hr hrok hw6 hb6 hK6 hMr HSTk HKk HBk hbB hA HMk HS1k hcnt hm1
              go_upto_region 12 with fail
              rw [HW6.out]
              clear p0 p1 p2 p3 p4 p5 HW6
              go_wp2_with fail
              refine HINS.out.mono ?_
              rintro e w7 ⟨v7, rfl, G7, hs7, hres⟩
              obtain ⟨V7, m7, hst7, hs17, hm7, hK7, hM7⟩ : I1 a' k r br m (insts a'.L a'.s a'.t r) G7 w7 := by
                rcases hres with h | h
                · exact h
                · exact h.elim
              have HK7 := Lib.hid (HK6.out.stp hs7 HMbk.out.1 HMbk.out.2)
              have HMb7 := Lib.hid (HMbk.out.stp hs7 HK6.out.lt)
              have hbw : Below bn w6 w7 := by rw [← HAB.out]; exact HST6.out.toB hs7
              have HBW7 : Hid (Below w.heap.size w w7) := HBW6.out.trans (hbw.mono (by rw [HBN.out]; exact Nat.le_refl _))
              have HST7 : Hid (ST w7 a' G7 V7 (List.replicate N false) m7) := by rw [← HAN.out]; exact hst7
              have HS17 := Lib.hid (hs17.next HRR.out.1)
              have HM7 : Hid (m7 ≤ 10000 * (k + 1)) := Nat.le_trans hm7 HCNT.out
              clear hres hst7 hs17 hm7 hK7 hM7 hbw hs7
              go_wp2_with fail
              go_roundw
              case rel => rw [← HAE.out]; exact ⟨k + 1, by omega, by go_num, G7, V7, m7, HM7, HST7, HS17, HK7, HMb7, HBW7⟩
              case measure => simp [intOf]; omega
            case neg =>
              have hltD : decide (k < nR) = false := by simp [hlt]
              obtain rfl : nR = k := by omega
              clear hlt hk
              have s0 := HSTk.out.cb
              have hset := settle_any wr a' G V (List.replicate N false) ⟨0, 0⟩ m HSTk.out (by have := HS1k.out.done (by rw [HAR.out]; exact Nat.le_refl _); rw [HAN.out] at this; rw [HAN.out]; exact this) HOK'.out (by have := HMk.out; omega)
              have HSET := Lib.hid hset
              clear hset
              go_wp2_with fail
              refine HSET.out.mono ?_
              rintro e w8 ⟨v8, rfl, G8, V8, B8, m8, hst8, hsol, hsp8⟩
              have HST8 := Lib.hid hst8
              have HSOL := Lib.hid hsol
              have HK8 := Lib.hid (HKk.out.stp hsp8 HMbk.out.1 HMbk.out.2)
              have hbw : Below bn wr w8 := by rw [← HAB.out]; exact HSTk.out.toB hsp8
              have HBW8 : Hid (Below w.heap.size w w8) := HBk.out.trans (hbw.mono (by rw [HBN.out]; exact Nat.le_refl _))
              have n1 := HK8.out.cell 1
              simp at n1
              clear hst8 hsol hsp8 hbw HSTk HS1k HKk HMbk HBk HMk s0 HSET
              go_wp2_with fail
              obtain ⟨i0, hi0, hz0, hz1, hz2⟩ := info_parts infoCl
              have HB80 : Hid (Below w8.heap.size w8 w8) := Below.refl _ _
              go_loopw [15, 77] (fun v x wr => ∃ i : Nat, i ≤ N ∧ x = .int .i64 i ∧ Hid (wr.ownsRow w8.heap.size 47 4 v (celsTo a' (gv V8) i).length (cls (celsTo a' (gv V8) i))) ∧ Hid (Below w8.heap.size w8 wr)) (fun _ x _ => N - (intOf x).toNat)
              case atStart => exact ⟨0, Nat.zero_le _, rfl, by simp [celsTo, cls]; exact World.ownsRow_nil _ _ _ _, HB80⟩
              case round =>
                obtain ⟨i, hi, rfl, HO, HB9⟩ := hrel
                clear HB80
                by_cases hlt : i < N
                case pos => as_aux_lemma =>
                  have hltD : decide (i < N) = true := by simp [hlt]
                  have hle : w8.heap.size ≤ wr.heap.size := HB9.out.size
                  have HST9 := Lib.hid (HST8.out.below HB9.out HOK'.out.g)
                  have s0 := HST9.out.cb
                  have HCH := Lib.hid (choose_any wr a' G8 V8 B8 m8 i HST9.out HOK'.out (by rw [HAN.out]; exact hlt))
                  have hsn := celsTo_snoc a' (gv V8) i
                  have hlen := celsTo_len a' (gv V8) i
                  obtain ⟨acc, hacc⟩ : ∃ acc, celsTo a' (gv V8) i = acc := ⟨_, rfl⟩
                  obtain ⟨c, hc⟩ : ∃ c, cel a'.R a'.L a'.s a'.t a'.C (gv V8) i = c := ⟨_, rfl⟩
                  rw [hacc] at HO hsn hlen
                  rw [hc] at HCH hsn
                  have HSN := Lib.hid hsn
                  simp only [Cl.val] at HCH
                  clear hsn hacc hc n1
                  go_upto_region 19 with fail
                  go_wp2_with (first | (go_at_call 51; with_reducible refine HCH.out.mono ?_; rintro e w9 ⟨rfl, hb9⟩; have HO9 := Lib.hid (own_below HO.out hb9); have HC9 := Lib.hid (HB9.out.trans (hb9.mono hle)); have hle9 : w8.heap.size ≤ w9.heap.size := HC9.out.size; clear hb9) | (at_builtin; go_must (refine wpList_append_own _ rfl _ _ 32 rfl w8.heap.size 47 i0 (.agg #[.int .i64 0, .int .i64 0, .int .i64 0, .int .i64 0]) 4 32 Tryd.underlying32 hi0 hz0 hz1 hz2 rfl (by decide) _ acc.length (cls acc) rfl ?hown ⟨w9.heap.size, 0, none⟩ 1 1 c.cells rfl rfl ?c1 ?c2 ?c3 ?c4 ?c5 ?_)))
                  case hown => exact HO9.out.alloc _
                  case c1 =>
                    intro j u hj
                    rw [Addr.add_lit, (Blk.new' _ _ _ (by simp)).cell]
                    simpa [Cl.cells] using hj
                  case c2 =>
                    intro u hu
                    simp [Cl.cells] at hu
                    rcases hu with rfl | rfl | rfl | rfl <;> rfl
                  case c3 => unfold maxLen; omega
                  case c4 => omega
                  case c5 => simp; omega
                  · intro v' w2 hown' hgrow _
                    have R := cls_push (t := c) (HC9.out.alloc hle9 _) (by simp) (by rw [hlen]; exact hown') hgrow (HO9.out.alloc _)
                    have HR1 := Lib.hid R
                    clear hown' hgrow HO R
                    go_wp2_with fail
                    go_roundw
                    case rel => exact ⟨i + 1, by omega, by go_num, by rw [HSN.out]; exact HR1.out.1, HR1.out.2⟩
                    case measure => simp [intOf]; omega
                case neg =>
                  have hltD : decide (i < N) = false := by simp [hlt]
                  obtain rfl : N = i := by omega
                  have hown := HO.out
                  have hlen := celsTo_len a' (gv V8) N
                  obtain ⟨A', c', rfl, _, _⟩ := own_form hown
                  have HRR := Lib.hid (Reads.of_own HO.out)
                  rw [hlen] at HRR
                  have HF : Hid (SpanPost a w (.returned (.slice A' N c')) wr) := by
                    refine HPOST.out _ _ ⟨A', c', gv V8, by rw [HAN.out], ?_, HSOL.out, HBW8.out.trans (HB9.out.mono HBW8.out.size)⟩
                    rw [HAN.out]
                    exact HRR.out
                  rw [hlen]
                  clear hown
                  go_wp2_with fail
                  go_ret
                  exact HF.out
end Go.Proofs.YthakcefgbggkcaaDoor
