/- LexerLexMatchesReference returns true for every automaton and text. -/
import Derived.Test.YtdpdggmafmebeaaAwake
namespace Go.Proofs.Ytdpdggmafmebeaa
open Go.RowKit

theorem cells3 {w w' : World} {N : Nat} {x y z : Value} {B : Nat} (h : w.cell? ⟨N, 0, none⟩ = some x ∧ w.cell? ⟨N, 1, none⟩ = some y ∧ w.cell? ⟨N, 2, none⟩ = some z) (hb : Below B w w') (hN : N < B) :
    w'.cell? ⟨N, 0, none⟩ = some x ∧ w'.cell? ⟨N, 1, none⟩ = some y ∧ w'.cell? ⟨N, 2, none⟩ = some z :=
  ⟨(hb.cell (p := ⟨N, 0, none⟩) hN).trans h.1, (hb.cell (p := ⟨N, 1, none⟩) hN).trans h.2.1, (hb.cell (p := ⟨N, 2, none⟩) hN).trans h.2.2⟩

theorem keep3 {w w' : World} {N : Nat} {x y z : Value} (h0 : w.cell? ⟨N, 0, none⟩ = some x) (h1 : w.cell? ⟨N, 1, none⟩ = some y) (h2 : w.cell? ⟨N, 2, none⟩ = some z) (hb : Below (N + 1) w w') :
    w'.cell? ⟨N, 0, none⟩ = some x ∧ w'.cell? ⟨N, 1, none⟩ = some y ∧ w'.cell? ⟨N, 2, none⟩ = some z ∧ Below (N + 1) w w' :=
  ⟨(hb.cell (p := ⟨N, 0, none⟩) (Nat.lt_succ_self N)).trans h0, (hb.cell (p := ⟨N, 1, none⟩) (Nat.lt_succ_self N)).trans h1, (hb.cell (p := ⟨N, 2, none⟩) (Nat.lt_succ_self N)).trans h2, hb⟩

set_option maxHeartbeats 1000000 in
theorem lawLex_any (v : DfaV) (d : Dfa) (B : Nat) (s : ByteArray) (w : World) (hd : DfaAt w B v d) (hB : B ≤ w.heap.size) (hs : s.size ≤ maxLen) :
    Calls Try.prog 3 #[.agg #[.slice v.Ac v.nc v.cc, .slice v.An v.nn v.cn, .slice v.Aa v.na v.ca], .string s] w fun e w' => e = .returned (.bool true) ∧ Below w.heap.size w w' := by
  have HD := Lib.hid ((hd.more hB).alloc (Nat.le_refl _) (.cells v.cells 25))
  have K := Blk.new' w 25 v.cells rfl
  have hb0 : Below w.heap.size w (w.alloc (.cells v.cells 25)) := (Below.refl _ _).alloc (Nat.le_refl _) _
  clear hd
  go_enter Try.func3, Try.ntmps3
  go_wp2_with fail
  refine (awake_any _).mono ?_
  rintro e w1 ⟨rfl, hb1⟩
  simp only [World.size_alloc] at hb1
  have K1 := K.below hb1 (by omega)
  have hs1 := hb1.size
  have HD1 := Lib.hid (HD.out.below (hb1.mono (by omega)))
  simp only [World.size_alloc] at hs1
  have g0 := K1.cell 0
  have g1 := K1.cell 1
  have g2 := K1.cell 2
  simp [DfaV.cells] at g0 g1 g2
  go_wp2_with fail
  refine (light_any v d w.heap.size s w1 HD1.out (by omega) hs).mono ?_
  rintro e w2 ⟨b, rfl, hok, hb2⟩
  have hbb : Below w.heap.size w w2 := (hb0.trans (hb1.mono (by omega))).trans (hb2.mono (by omega))
  have hs2 := hb2.size
  cases b with
  | false =>
    go_wp2_with fail
    go_ret
    exact ⟨rfl, hbb⟩
  | true =>
    obtain ⟨⟨k, ho⟩, hn60, hs60⟩ := hok rfl
    have c3 := cells3 (w' := w2) ⟨g0, g1, g2⟩ (hb2.mono (by omega)) (Nat.lt_succ_self _)
    obtain ⟨q0, q1, q2⟩ := c3
    have HD2 := Lib.hid (HD1.out.below (hb2.mono (by omega)))
    clear g0 g1 g2 hok
    go_wp2_with fail
    have hk : sameT (lexL d s) (lexL d s) = true := sameT_iff.2 rfl
    have hsL := hbb.size
    go_region_held3 (fun w' => w'.cell? ⟨w.heap.size, 0, none⟩ = some (.slice v.Ac v.nc v.cc) ∧ w'.cell? ⟨w.heap.size, 1, none⟩ = some (.slice v.An v.nn v.cn) ∧ w'.cell? ⟨w.heap.size, 2, none⟩ = some (.slice v.Aa v.na v.ca) ∧ Below (w.heap.size + 1) w2 w')
      (first | exact keep3 q0 q1 q2 ((Below.refl _ _).drew) | exact keep3 q0 q1 q2 X3 | exact keep3 q0 q1 q2 X4 | exact keep3 q0 q1 q2 X5)
      (first
        | (go_at_call 13; refine (lex_any v d k w.heap.size s w2.drew (HD2.out.keep fun _ _ => rfl) (show w.heap.size ≤ w2.heap.size by omega) ho (by omega)).mono ?_; rintro e w3 ⟨A1, c1, rfl, hc1, hm1, r1, hb3⟩; have X3 : Below (w.heap.size + 1) w2 w3 := ((Below.refl _ w2).drew).trans (hb3.mono (show w.heap.size + 1 ≤ w2.heap.size by omega)))
        | (go_at_call 14; refine (refLex_any v d k w.heap.size s _ (HD2.out.below (X3.mono (by omega))) (by have := X3.size; omega) ho (by omega)).mono ?_; rintro e w4 ⟨A2, c2, rfl, hc2, hm2, r2, hb4⟩; have X4 : Below (w.heap.size + 1) w2 w4 := X3.trans (hb4.mono (by have := X3.size; omega)))
        | (go_at_call 12; refine (same_any A1 A2 _ _ c1 c2 _ _ (lexL d s) (lexL d s) _ (r1.below hb4) r2 (by omega) (by omega)).mono ?_; rintro e w5 ⟨rfl, n5, rfl⟩; rw [hk]; have X5 : Below (w.heap.size + 1) w2 (w4.drewN n5) := below_drewN X4 _))
    go_wp2_with fail
    go_ret
    exact ⟨rfl, hbb.trans (X5.mono (by omega))⟩
end Go.Proofs.Ytdpdggmafmebeaa
