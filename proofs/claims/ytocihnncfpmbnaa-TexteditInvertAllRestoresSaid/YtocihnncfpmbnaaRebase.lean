/- Rebase, the program's and the reference's, returns the specified edit. -/
import Derived.Test.YtocihnncfpmbnaaInvert
namespace Go.Proofs.Ytocihnncfpmbnaa
open Go.RowKit

def Ed.may (e : Ed) : Bool := decide (0 ≤ e.pos ∧ 0 ≤ e.del ∧ e.pos ≤ 2147483647 ∧ e.del ≤ 2147483647 - e.pos)
def rebO (a b : Ed) : Bool := a.may && (b.may && (decide (b.pos + b.del ≤ a.pos) || decide (a.pos + a.del ≤ b.pos)))
def rebE (a b : Ed) : Ed := if a.may && b.may then (if b.pos + b.del ≤ a.pos then ⟨a.pos + b.ins.size - b.del, a.del, a.ins⟩ else if a.pos + a.del ≤ b.pos then a else ⟨0, 0, ⟨#[]⟩⟩) else ⟨0, 0, ⟨#[]⟩⟩

theorem results_edit_any {fn : Func} {p q : Tmp} (h : fn.results = #[.cell p 23, .tmp q]) {tmps : Array Value} {b o : Nat} (hp : tmps.getD p undef = .pointer (some ⟨b, o, none⟩)) {w : World} {i j : Int} {t : ByteArray} {v : Value}
    (h0 : w.cell? ⟨b, o, none⟩ = some (.int .i64 i)) (h1 : w.cell? ⟨b, o + 1, none⟩ = some (.int .i64 j)) (h2 : w.cell? ⟨b, o + 2, none⟩ = some (.string t)) (hv : tmps.getD q undef = v) :
    (results fn tmps).run Try.prog w = .ok (.tuple #[.agg #[.int .i64 i, .int .i64 j, .string t], v]) w := results_edit_int h hp h0 h1 h2 hv

set_option maxHeartbeats 1000000 in
theorem may_any (a b : Int) (s : ByteArray) (w : World) :
    Calls Try.prog 29 #[.agg #[.int .i64 a, .int .i64 b, .string s]] w fun e w' => e = .returned (.bool (Ed.may ⟨a, b, s⟩)) ∧ Below w.heap.size w w' := by
  have key : ∀ r : Bool, Ed.may ⟨a, b, s⟩ = r → Ending.returned (.bool r) = .returned (.bool (Ed.may ⟨a, b, s⟩)) := fun r h => by rw [h]
  have KEY := Lib.hid key
  clear key
  by_cases h1 : 0 ≤ a
  case neg =>
    have r := Lib.hid (show Ed.may ⟨a, b, s⟩ = false by simp [Ed.may]; omega)
    have t1 : decide (0 ≤ a) = false := by simp; omega
    go_enter Try.func29, Try.ntmps29
    go_wp2_with fail
    go_ret
    exact ⟨KEY.out _ r.out, (Below.refl _ _).alloc (Nat.le_refl _) _⟩
  have t1 : decide (0 ≤ a) = true := by simp; omega
  by_cases h2 : 0 ≤ b
  case neg =>
    have r := Lib.hid (show Ed.may ⟨a, b, s⟩ = false by simp [Ed.may]; omega)
    have t2 : decide (0 ≤ b) = false := by simp; omega
    go_enter Try.func29, Try.ntmps29
    go_wp2_with fail
    go_ret
    exact ⟨KEY.out _ r.out, (Below.refl _ _).alloc (Nat.le_refl _) _⟩
  have t2 : decide (0 ≤ b) = true := by simp; omega
  by_cases h3 : a ≤ 2147483647
  case neg =>
    have r := Lib.hid (show Ed.may ⟨a, b, s⟩ = false by simp [Ed.may]; omega)
    have t3 : decide (a ≤ 2147483647) = false := by simp; omega
    go_enter Try.func29, Try.ntmps29
    go_wp2_with fail
    go_ret
    exact ⟨KEY.out _ r.out, (Below.refl _ _).alloc (Nat.le_refl _) _⟩
  have t3 : decide (a ≤ 2147483647) = true := by simp; omega
  by_cases h4 : b ≤ 2147483647 - a
  · have r := Lib.hid (show Ed.may ⟨a, b, s⟩ = true by simp [Ed.may]; omega)
    have t4 : decide (b ≤ 2147483647 - a) = true := by simp; omega
    go_enter Try.func29, Try.ntmps29
    go_wp2_with fail
    go_ret
    exact ⟨KEY.out _ r.out, (Below.refl _ _).alloc (Nat.le_refl _) _⟩
  · have r := Lib.hid (show Ed.may ⟨a, b, s⟩ = false by simp [Ed.may]; omega)
    have t4 : decide (b ≤ 2147483647 - a) = false := by simp; omega
    go_enter Try.func29, Try.ntmps29
    go_wp2_with fail
    go_ret
    exact ⟨KEY.out _ r.out, (Below.refl _ _).alloc (Nat.le_refl _) _⟩
/- SMALL -/
set_option maxHeartbeats 1000000 in
theorem small_any (a b : Int) (s : ByteArray) (w : World) :
    Calls Try.prog 30 #[.agg #[.int .i64 a, .int .i64 b, .string s]] w fun e w' => e = .returned (.bool (Ed.may ⟨a, b, s⟩)) ∧ Below w.heap.size w w' := by
  have key : ∀ r : Bool, Ed.may ⟨a, b, s⟩ = r → Ending.returned (.bool r) = .returned (.bool (Ed.may ⟨a, b, s⟩)) := fun r h => by rw [h]
  have KEY := Lib.hid key
  clear key
  by_cases h1 : 0 ≤ a
  case neg =>
    have r := Lib.hid (show Ed.may ⟨a, b, s⟩ = false by simp [Ed.may]; omega)
    have t1 : decide (0 ≤ a) = false := by simp; omega
    go_enter Try.func30, Try.ntmps30
    go_wp2_with fail
    go_ret
    exact ⟨KEY.out _ r.out, (Below.refl _ _).alloc (Nat.le_refl _) _⟩
  have t1 : decide (0 ≤ a) = true := by simp; omega
  by_cases h2 : 0 ≤ b
  case neg =>
    have r := Lib.hid (show Ed.may ⟨a, b, s⟩ = false by simp [Ed.may]; omega)
    have t2 : decide (0 ≤ b) = false := by simp; omega
    go_enter Try.func30, Try.ntmps30
    go_wp2_with fail
    go_ret
    exact ⟨KEY.out _ r.out, (Below.refl _ _).alloc (Nat.le_refl _) _⟩
  have t2 : decide (0 ≤ b) = true := by simp; omega
  by_cases h3 : a ≤ 2147483647
  case neg =>
    have r := Lib.hid (show Ed.may ⟨a, b, s⟩ = false by simp [Ed.may]; omega)
    have t3 : decide (a ≤ 2147483647) = false := by simp; omega
    go_enter Try.func30, Try.ntmps30
    go_wp2_with fail
    go_ret
    exact ⟨KEY.out _ r.out, (Below.refl _ _).alloc (Nat.le_refl _) _⟩
  have t3 : decide (a ≤ 2147483647) = true := by simp; omega
  by_cases h4 : b ≤ 2147483647 - a
  · have r := Lib.hid (show Ed.may ⟨a, b, s⟩ = true by simp [Ed.may]; omega)
    have t4 : decide (b ≤ 2147483647 - a) = true := by simp; omega
    go_enter Try.func30, Try.ntmps30
    go_wp2_with fail
    go_ret
    exact ⟨KEY.out _ r.out, (Below.refl _ _).alloc (Nat.le_refl _) _⟩
  · have r := Lib.hid (show Ed.may ⟨a, b, s⟩ = false by simp [Ed.may]; omega)
    have t4 : decide (b ≤ 2147483647 - a) = false := by simp; omega
    go_enter Try.func30, Try.ntmps30
    go_wp2_with fail
    go_ret
    exact ⟨KEY.out _ r.out, (Below.refl _ _).alloc (Nat.le_refl _) _⟩

set_option maxHeartbeats 2000000 in
theorem rebase_any (ap ad bp bd : Int) (at_ bt : ByteArray) (w : World) (hbt : bt.size ≤ 1000000000000000) :
    Calls Try.prog 21 #[.agg #[.int .i64 ap, .int .i64 ad, .string at_], .agg #[.int .i64 bp, .int .i64 bd, .string bt]] w
      fun e w' => e = .returned (.tuple #[.agg #[.int .i64 (rebE ⟨ap, ad, at_⟩ ⟨bp, bd, bt⟩).pos, .int .i64 (rebE ⟨ap, ad, at_⟩ ⟨bp, bd, bt⟩).del, .string (rebE ⟨ap, ad, at_⟩ ⟨bp, bd, bt⟩).ins], .bool (rebO ⟨ap, ad, at_⟩ ⟨bp, bd, bt⟩)]) ∧ Below w.heap.size w w' := by
  obtain ⟨W0, hW0⟩ : ∃ W, W = ((w.alloc (.cells #[.int .i64 ap, .int .i64 ad, .string at_] 23)).alloc (.cells #[.int .i64 bp, .int .i64 bd, .string bt] 23)).alloc (.cells #[.int .i64 0, .int .i64 0, .string ⟨#[]⟩] 23) := ⟨_, rfl⟩
  have hsW : W0.heap.size = w.heap.size + 1 + 1 + 1 := by rw [hW0]; simp
  have KA : Blk W0 w.heap.size 23 #[.int .i64 ap, .int .i64 ad, .string at_] := by rw [hW0]; exact ((Blk.new' _ _ _ rfl).alloc _).alloc _
  have KB : Blk W0 (w.heap.size + 1) 23 #[.int .i64 bp, .int .i64 bd, .string bt] := by rw [hW0]; exact (Blk.new' _ _ _ (by simp)).alloc _
  have KZ : Blk W0 (w.heap.size + 1 + 1) 23 #[.int .i64 0, .int .i64 0, .string ⟨#[]⟩] := by rw [hW0]; exact Blk.new' _ _ _ (by simp)
  have hbW : Below w.heap.size w W0 := by rw [hW0]; exact (((Below.refl _ _).alloc (Nat.le_refl _) _).alloc (by simp) _).alloc (by simp; omega) _
  have WAIT := Lib.hid hW0
  clear hW0
  cases ma : Ed.may ⟨ap, ad, at_⟩ with
  | false =>
    have RE := Lib.hid (show rebE ⟨ap, ad, at_⟩ ⟨bp, bd, bt⟩ = ⟨0, 0, ⟨#[]⟩⟩ by simp [rebE, ma])
    have RO := Lib.hid (show rebO ⟨ap, ad, at_⟩ ⟨bp, bd, bt⟩ = false by simp [rebO, ma])
    go_enter Try.func21, Try.ntmps21
    go_wp2_with fail
    rw [← WAIT.out]
    refine (may_any ap ad at_ _).mono ?_
    rintro e w1 ⟨rfl, hc1⟩
    rw [ma]
    have hb1 : Below (w.heap.size + 1 + 1 + 1) W0 w1 := hc1.mono (by omega)
    have A0 := KA.below hb1 (by omega)
    have B0 := KB.below hb1 (by omega)
    have Z0 := KZ.below hb1 (by omega)
    have a0 := A0.cell 0
    have a1 := A0.cell 1
    have a2 := A0.cell 2
    have b0 := B0.cell 0
    have b1 := B0.cell 1
    have b2 := B0.cell 2
    have z0 := Z0.cell 0
    have z1 := Z0.cell 1
    have z2 := Z0.cell 2
    have y0 := Z0.frozen 0
    have y1 := Z0.frozen 1
    have y2 := Z0.frozen 2
    have x0 := A0.frozen 0
    simp at a0 a1 a2 b0 b1 b2 z0 z1 z2
    go_wp2_with fail
    have r1 := Z0.set3 (.int .i64 0) (.int .i64 0) (.string ⟨#[]⟩)
    refine bodyPost_ret (results_edit_any rfl rfl (r1.cell 0) (r1.cell 1) (r1.cell 2) rfl) rfl ⟨by rw [RE.out, RO.out]; rfl, ?_⟩
    exact (((hbW.trans (hb1.mono (by omega))).setCell (by simp; omega) _).setCell (by simp; omega) _).setCell (by simp; omega) _
  | true =>
  cases mb : Ed.may ⟨bp, bd, bt⟩ with
  | false =>
    have RE := Lib.hid (show rebE ⟨ap, ad, at_⟩ ⟨bp, bd, bt⟩ = ⟨0, 0, ⟨#[]⟩⟩ by simp [rebE, mb])
    have RO := Lib.hid (show rebO ⟨ap, ad, at_⟩ ⟨bp, bd, bt⟩ = false by simp [rebO, mb])
    go_enter Try.func21, Try.ntmps21
    go_wp2_with fail
    rw [← WAIT.out]
    refine (may_any ap ad at_ _).mono ?_
    rintro e w1 ⟨rfl, hc1⟩
    rw [ma]
    have hb1 : Below (w.heap.size + 1 + 1 + 1) W0 w1 := hc1.mono (by omega)
    have A0 := KA.below hb1 (by omega)
    have B0 := KB.below hb1 (by omega)
    have Z0 := KZ.below hb1 (by omega)
    have a0 := A0.cell 0
    have a1 := A0.cell 1
    have a2 := A0.cell 2
    have b0 := B0.cell 0
    have b1 := B0.cell 1
    have b2 := B0.cell 2
    have z0 := Z0.cell 0
    have z1 := Z0.cell 1
    have z2 := Z0.cell 2
    have y0 := Z0.frozen 0
    have y1 := Z0.frozen 1
    have y2 := Z0.frozen 2
    have x0 := A0.frozen 0
    simp at a0 a1 a2 b0 b1 b2 z0 z1 z2
    go_wp2_with fail
    refine (may_any bp bd bt _).mono ?_
    rintro e w2 ⟨rfl, hc2⟩
    rw [mb]
    have hb2 : Below (w.heap.size + 1 + 1 + 1) W0 w2 := hb1.trans (hc2.mono (by have := hb1.size; omega))
    have A0 := KA.below hb2 (by omega)
    have B0 := KB.below hb2 (by omega)
    have Z0 := KZ.below hb2 (by omega)
    have a0 := A0.cell 0
    have a1 := A0.cell 1
    have a2 := A0.cell 2
    have b0 := B0.cell 0
    have b1 := B0.cell 1
    have b2 := B0.cell 2
    have z0 := Z0.cell 0
    have z1 := Z0.cell 1
    have z2 := Z0.cell 2
    have y0 := Z0.frozen 0
    have y1 := Z0.frozen 1
    have y2 := Z0.frozen 2
    have x0 := A0.frozen 0
    simp at a0 a1 a2 b0 b1 b2 z0 z1 z2
    go_wp2_with fail
    have r1 := Z0.set3 (.int .i64 0) (.int .i64 0) (.string ⟨#[]⟩)
    refine bodyPost_ret (results_edit_any rfl rfl (r1.cell 0) (r1.cell 1) (r1.cell 2) rfl) rfl ⟨by rw [RE.out, RO.out]; rfl, ?_⟩
    exact (((hbW.trans (hb2.mono (by omega))).setCell (by simp; omega) _).setCell (by simp; omega) _).setCell (by simp; omega) _
  | true =>
  have pa : 0 ≤ ap ∧ 0 ≤ ad ∧ ap ≤ 2147483647 ∧ ad ≤ 2147483647 - ap := by simpa [Ed.may] using ma
  have pb : 0 ≤ bp ∧ 0 ≤ bd ∧ bp ≤ 2147483647 ∧ bd ≤ 2147483647 - bp := by simpa [Ed.may] using mb
  obtain ⟨p1, p2, p3, p4⟩ := pa
  obtain ⟨p5, p6, p7, p8⟩ := pb
  have v1 : IntKind.i64.wrap (bp + bd) = bp + bd := IntWalk.i64_in _ (by omega)
  have v2 : IntKind.i64.wrap (ap + ad) = ap + ad := IntWalk.i64_in _ (by omega)
  by_cases c1 : bp + bd ≤ ap
  · have RE := Lib.hid (show rebE ⟨ap, ad, at_⟩ ⟨bp, bd, bt⟩ = ⟨ap + bt.size - bd, ad, at_⟩ by simp [rebE, ma, mb, c1])
    have RO := Lib.hid (show rebO ⟨ap, ad, at_⟩ ⟨bp, bd, bt⟩ = true by simp [rebO, ma, mb, c1])
    have d1 : decide (bp + bd ≤ ap) = true := by simp [c1]
    have v3 : IntKind.i64.wrap ((bt.size : Int) - bd) = bt.size - bd := IntWalk.i64_in _ (by omega)
    have v4 : IntKind.i64.wrap (ap + ((bt.size : Int) - bd)) = ap + (bt.size - bd) := IntWalk.i64_in _ (by omega)
    have v5 : IntKind.i64.wrap (ap + (bt.size : Int)) = ap + bt.size := IntWalk.i64_in _ (by omega)
    have v6 : IntKind.i64.wrap (ap + (bt.size : Int) - bd) = ap + bt.size - bd := IntWalk.i64_in _ (by omega)
    have HAS := Lib.hid (show ap + ((bt.size : Int) - bd) = ap + bt.size - bd by omega)
    have hne3 : w.heap.size + 1 + 1 ≠ w.heap.size := by omega
    go_enter Try.func21, Try.ntmps21
    go_wp2_with fail
    rw [← WAIT.out]
    refine (may_any ap ad at_ _).mono ?_
    rintro e w1 ⟨rfl, hc1⟩
    rw [ma]
    have hb1 : Below (w.heap.size + 1 + 1 + 1) W0 w1 := hc1.mono (by omega)
    have A0 := KA.below hb1 (by omega)
    have B0 := KB.below hb1 (by omega)
    have Z0 := KZ.below hb1 (by omega)
    have a0 := A0.cell 0
    have a1 := A0.cell 1
    have a2 := A0.cell 2
    have b0 := B0.cell 0
    have b1 := B0.cell 1
    have b2 := B0.cell 2
    have z0 := Z0.cell 0
    have z1 := Z0.cell 1
    have z2 := Z0.cell 2
    have y0 := Z0.frozen 0
    have y1 := Z0.frozen 1
    have y2 := Z0.frozen 2
    have x0 := A0.frozen 0
    simp at a0 a1 a2 b0 b1 b2 z0 z1 z2
    go_wp2_with fail
    refine (may_any bp bd bt _).mono ?_
    rintro e w2 ⟨rfl, hc2⟩
    rw [mb]
    have hb2 : Below (w.heap.size + 1 + 1 + 1) W0 w2 := hb1.trans (hc2.mono (by have := hb1.size; omega))
    have A0 := KA.below hb2 (by omega)
    have B0 := KB.below hb2 (by omega)
    have Z0 := KZ.below hb2 (by omega)
    have a0 := A0.cell 0
    have a1 := A0.cell 1
    have a2 := A0.cell 2
    have b0 := B0.cell 0
    have b1 := B0.cell 1
    have b2 := B0.cell 2
    have z0 := Z0.cell 0
    have z1 := Z0.cell 1
    have z2 := Z0.cell 2
    have y0 := Z0.frozen 0
    have y1 := Z0.frozen 1
    have y2 := Z0.frozen 2
    have x0 := A0.frozen 0
    simp at a0 a1 a2 b0 b1 b2 z0 z1 z2
    go_wp2_with fail
    have r1 := (Z0.far (p := ⟨w.heap.size, 0, none⟩) (by simp; omega) (.int .i64 (ap + ((bt.size : Int) - bd)))).set3 (.int .i64 (ap + ((bt.size : Int) - bd))) (.int .i64 ad) (.string at_)
    refine bodyPost_ret (results_edit_any rfl rfl (r1.cell 0) (r1.cell 1) (r1.cell 2) rfl) rfl ⟨by rw [RE.out, RO.out, HAS.out]; rfl, ?_⟩
    exact ((((hbW.trans (hb2.mono (by omega))).setCell (by simp) _).setCell (by simp; omega) _).setCell (by simp; omega) _).setCell (by simp; omega) _
  have d1 : decide (bp + bd ≤ ap) = false := by simp [c1]
  by_cases c2 : ap + ad ≤ bp
  · have RE := Lib.hid (show rebE ⟨ap, ad, at_⟩ ⟨bp, bd, bt⟩ = ⟨ap, ad, at_⟩ by simp [rebE, ma, mb, c1, c2])
    have RO := Lib.hid (show rebO ⟨ap, ad, at_⟩ ⟨bp, bd, bt⟩ = true by simp [rebO, ma, mb, c2])
    have d2 : decide (ap + ad ≤ bp) = true := by simp [c2]
    go_enter Try.func21, Try.ntmps21
    go_wp2_with fail
    rw [← WAIT.out]
    refine (may_any ap ad at_ _).mono ?_
    rintro e w1 ⟨rfl, hc1⟩
    rw [ma]
    have hb1 : Below (w.heap.size + 1 + 1 + 1) W0 w1 := hc1.mono (by omega)
    have A0 := KA.below hb1 (by omega)
    have B0 := KB.below hb1 (by omega)
    have Z0 := KZ.below hb1 (by omega)
    have a0 := A0.cell 0
    have a1 := A0.cell 1
    have a2 := A0.cell 2
    have b0 := B0.cell 0
    have b1 := B0.cell 1
    have b2 := B0.cell 2
    have z0 := Z0.cell 0
    have z1 := Z0.cell 1
    have z2 := Z0.cell 2
    have y0 := Z0.frozen 0
    have y1 := Z0.frozen 1
    have y2 := Z0.frozen 2
    have x0 := A0.frozen 0
    simp at a0 a1 a2 b0 b1 b2 z0 z1 z2
    go_wp2_with fail
    refine (may_any bp bd bt _).mono ?_
    rintro e w2 ⟨rfl, hc2⟩
    rw [mb]
    have hb2 : Below (w.heap.size + 1 + 1 + 1) W0 w2 := hb1.trans (hc2.mono (by have := hb1.size; omega))
    have A0 := KA.below hb2 (by omega)
    have B0 := KB.below hb2 (by omega)
    have Z0 := KZ.below hb2 (by omega)
    have a0 := A0.cell 0
    have a1 := A0.cell 1
    have a2 := A0.cell 2
    have b0 := B0.cell 0
    have b1 := B0.cell 1
    have b2 := B0.cell 2
    have z0 := Z0.cell 0
    have z1 := Z0.cell 1
    have z2 := Z0.cell 2
    have y0 := Z0.frozen 0
    have y1 := Z0.frozen 1
    have y2 := Z0.frozen 2
    have x0 := A0.frozen 0
    simp at a0 a1 a2 b0 b1 b2 z0 z1 z2
    go_wp2_with fail
    have r1 := Z0.set3 (.int .i64 ap) (.int .i64 ad) (.string at_)
    refine bodyPost_ret (results_edit_any rfl rfl (r1.cell 0) (r1.cell 1) (r1.cell 2) rfl) rfl ⟨by rw [RE.out, RO.out]; rfl, ?_⟩
    exact (((hbW.trans (hb2.mono (by omega))).setCell (by simp; omega) _).setCell (by simp; omega) _).setCell (by simp; omega) _
  · have RE := Lib.hid (show rebE ⟨ap, ad, at_⟩ ⟨bp, bd, bt⟩ = ⟨0, 0, ⟨#[]⟩⟩ by simp [rebE, ma, mb, c1, c2])
    have RO := Lib.hid (show rebO ⟨ap, ad, at_⟩ ⟨bp, bd, bt⟩ = false by simp [rebO, ma, mb, c1, c2])
    have d2 : decide (ap + ad ≤ bp) = false := by simp [c2]
    go_enter Try.func21, Try.ntmps21
    go_wp2_with fail
    rw [← WAIT.out]
    refine (may_any ap ad at_ _).mono ?_
    rintro e w1 ⟨rfl, hc1⟩
    rw [ma]
    have hb1 : Below (w.heap.size + 1 + 1 + 1) W0 w1 := hc1.mono (by omega)
    have A0 := KA.below hb1 (by omega)
    have B0 := KB.below hb1 (by omega)
    have Z0 := KZ.below hb1 (by omega)
    have a0 := A0.cell 0
    have a1 := A0.cell 1
    have a2 := A0.cell 2
    have b0 := B0.cell 0
    have b1 := B0.cell 1
    have b2 := B0.cell 2
    have z0 := Z0.cell 0
    have z1 := Z0.cell 1
    have z2 := Z0.cell 2
    have y0 := Z0.frozen 0
    have y1 := Z0.frozen 1
    have y2 := Z0.frozen 2
    have x0 := A0.frozen 0
    simp at a0 a1 a2 b0 b1 b2 z0 z1 z2
    go_wp2_with fail
    refine (may_any bp bd bt _).mono ?_
    rintro e w2 ⟨rfl, hc2⟩
    rw [mb]
    have hb2 : Below (w.heap.size + 1 + 1 + 1) W0 w2 := hb1.trans (hc2.mono (by have := hb1.size; omega))
    have A0 := KA.below hb2 (by omega)
    have B0 := KB.below hb2 (by omega)
    have Z0 := KZ.below hb2 (by omega)
    have a0 := A0.cell 0
    have a1 := A0.cell 1
    have a2 := A0.cell 2
    have b0 := B0.cell 0
    have b1 := B0.cell 1
    have b2 := B0.cell 2
    have z0 := Z0.cell 0
    have z1 := Z0.cell 1
    have z2 := Z0.cell 2
    have y0 := Z0.frozen 0
    have y1 := Z0.frozen 1
    have y2 := Z0.frozen 2
    have x0 := A0.frozen 0
    simp at a0 a1 a2 b0 b1 b2 z0 z1 z2
    go_wp2_with fail
    have r1 := Z0.set3 (.int .i64 0) (.int .i64 0) (.string ⟨#[]⟩)
    refine bodyPost_ret (results_edit_any rfl rfl (r1.cell 0) (r1.cell 1) (r1.cell 2) rfl) rfl ⟨by rw [RE.out, RO.out]; rfl, ?_⟩
    exact (((hbW.trans (hb2.mono (by omega))).setCell (by simp; omega) _).setCell (by simp; omega) _).setCell (by simp; omega) _

set_option maxHeartbeats 2000000 in
theorem refRebase_any (ap ad bp bd : Int) (at_ bt : ByteArray) (w : World) (hbt : bt.size ≤ 1000000000000000) :
    Calls Try.prog 22 #[.agg #[.int .i64 ap, .int .i64 ad, .string at_], .agg #[.int .i64 bp, .int .i64 bd, .string bt]] w
      fun e w' => e = .returned (.tuple #[.agg #[.int .i64 (rebE ⟨ap, ad, at_⟩ ⟨bp, bd, bt⟩).pos, .int .i64 (rebE ⟨ap, ad, at_⟩ ⟨bp, bd, bt⟩).del, .string (rebE ⟨ap, ad, at_⟩ ⟨bp, bd, bt⟩).ins], .bool (rebO ⟨ap, ad, at_⟩ ⟨bp, bd, bt⟩)]) ∧ Below w.heap.size w w' := by
  obtain ⟨W0, hW0⟩ : ∃ W, W = ((w.alloc (.cells #[.int .i64 ap, .int .i64 ad, .string at_] 23)).alloc (.cells #[.int .i64 bp, .int .i64 bd, .string bt] 23)).alloc (.cells #[.int .i64 0, .int .i64 0, .string ⟨#[]⟩] 23) := ⟨_, rfl⟩
  have hsW : W0.heap.size = w.heap.size + 1 + 1 + 1 := by rw [hW0]; simp
  have KA : Blk W0 w.heap.size 23 #[.int .i64 ap, .int .i64 ad, .string at_] := by rw [hW0]; exact ((Blk.new' _ _ _ rfl).alloc _).alloc _
  have KB : Blk W0 (w.heap.size + 1) 23 #[.int .i64 bp, .int .i64 bd, .string bt] := by rw [hW0]; exact (Blk.new' _ _ _ (by simp)).alloc _
  have KZ : Blk W0 (w.heap.size + 1 + 1) 23 #[.int .i64 0, .int .i64 0, .string ⟨#[]⟩] := by rw [hW0]; exact Blk.new' _ _ _ (by simp)
  have hbW : Below w.heap.size w W0 := by rw [hW0]; exact (((Below.refl _ _).alloc (Nat.le_refl _) _).alloc (by simp) _).alloc (by simp; omega) _
  have WAIT := Lib.hid hW0
  clear hW0
  cases ma : Ed.may ⟨ap, ad, at_⟩ with
  | false =>
    have RE := Lib.hid (show rebE ⟨ap, ad, at_⟩ ⟨bp, bd, bt⟩ = ⟨0, 0, ⟨#[]⟩⟩ by simp [rebE, ma])
    have RO := Lib.hid (show rebO ⟨ap, ad, at_⟩ ⟨bp, bd, bt⟩ = false by simp [rebO, ma])
    go_enter Try.func22, Try.ntmps22
    go_wp2_with fail
    rw [← WAIT.out]
    refine (small_any ap ad at_ _).mono ?_
    rintro e w1 ⟨rfl, hc1⟩
    rw [ma]
    have hb1 : Below (w.heap.size + 1 + 1 + 1) W0 w1 := hc1.mono (by omega)
    have A0 := KA.below hb1 (by omega)
    have B0 := KB.below hb1 (by omega)
    have Z0 := KZ.below hb1 (by omega)
    have a0 := A0.cell 0
    have a1 := A0.cell 1
    have a2 := A0.cell 2
    have b0 := B0.cell 0
    have b1 := B0.cell 1
    have b2 := B0.cell 2
    have z0 := Z0.cell 0
    have z1 := Z0.cell 1
    have z2 := Z0.cell 2
    have y0 := Z0.frozen 0
    have y1 := Z0.frozen 1
    have y2 := Z0.frozen 2
    have x0 := A0.frozen 0
    simp at a0 a1 a2 b0 b1 b2 z0 z1 z2
    go_wp2_with fail
    have r1 := Z0.set3 (.int .i64 0) (.int .i64 0) (.string ⟨#[]⟩)
    refine bodyPost_ret (results_edit_any rfl rfl (r1.cell 0) (r1.cell 1) (r1.cell 2) rfl) rfl ⟨by rw [RE.out, RO.out]; rfl, ?_⟩
    exact (((hbW.trans (hb1.mono (by omega))).setCell (by simp; omega) _).setCell (by simp; omega) _).setCell (by simp; omega) _
  | true =>
  cases mb : Ed.may ⟨bp, bd, bt⟩ with
  | false =>
    have RE := Lib.hid (show rebE ⟨ap, ad, at_⟩ ⟨bp, bd, bt⟩ = ⟨0, 0, ⟨#[]⟩⟩ by simp [rebE, mb])
    have RO := Lib.hid (show rebO ⟨ap, ad, at_⟩ ⟨bp, bd, bt⟩ = false by simp [rebO, mb])
    go_enter Try.func22, Try.ntmps22
    go_wp2_with fail
    rw [← WAIT.out]
    refine (small_any ap ad at_ _).mono ?_
    rintro e w1 ⟨rfl, hc1⟩
    rw [ma]
    have hb1 : Below (w.heap.size + 1 + 1 + 1) W0 w1 := hc1.mono (by omega)
    have A0 := KA.below hb1 (by omega)
    have B0 := KB.below hb1 (by omega)
    have Z0 := KZ.below hb1 (by omega)
    have a0 := A0.cell 0
    have a1 := A0.cell 1
    have a2 := A0.cell 2
    have b0 := B0.cell 0
    have b1 := B0.cell 1
    have b2 := B0.cell 2
    have z0 := Z0.cell 0
    have z1 := Z0.cell 1
    have z2 := Z0.cell 2
    have y0 := Z0.frozen 0
    have y1 := Z0.frozen 1
    have y2 := Z0.frozen 2
    have x0 := A0.frozen 0
    simp at a0 a1 a2 b0 b1 b2 z0 z1 z2
    go_wp2_with fail
    refine (small_any bp bd bt _).mono ?_
    rintro e w2 ⟨rfl, hc2⟩
    rw [mb]
    have hb2 : Below (w.heap.size + 1 + 1 + 1) W0 w2 := hb1.trans (hc2.mono (by have := hb1.size; omega))
    have A0 := KA.below hb2 (by omega)
    have B0 := KB.below hb2 (by omega)
    have Z0 := KZ.below hb2 (by omega)
    have a0 := A0.cell 0
    have a1 := A0.cell 1
    have a2 := A0.cell 2
    have b0 := B0.cell 0
    have b1 := B0.cell 1
    have b2 := B0.cell 2
    have z0 := Z0.cell 0
    have z1 := Z0.cell 1
    have z2 := Z0.cell 2
    have y0 := Z0.frozen 0
    have y1 := Z0.frozen 1
    have y2 := Z0.frozen 2
    have x0 := A0.frozen 0
    simp at a0 a1 a2 b0 b1 b2 z0 z1 z2
    go_wp2_with fail
    have r1 := Z0.set3 (.int .i64 0) (.int .i64 0) (.string ⟨#[]⟩)
    refine bodyPost_ret (results_edit_any rfl rfl (r1.cell 0) (r1.cell 1) (r1.cell 2) rfl) rfl ⟨by rw [RE.out, RO.out]; rfl, ?_⟩
    exact (((hbW.trans (hb2.mono (by omega))).setCell (by simp; omega) _).setCell (by simp; omega) _).setCell (by simp; omega) _
  | true =>
  have pa : 0 ≤ ap ∧ 0 ≤ ad ∧ ap ≤ 2147483647 ∧ ad ≤ 2147483647 - ap := by simpa [Ed.may] using ma
  have pb : 0 ≤ bp ∧ 0 ≤ bd ∧ bp ≤ 2147483647 ∧ bd ≤ 2147483647 - bp := by simpa [Ed.may] using mb
  obtain ⟨p1, p2, p3, p4⟩ := pa
  obtain ⟨p5, p6, p7, p8⟩ := pb
  have v1 : IntKind.i64.wrap (bp + bd) = bp + bd := IntWalk.i64_in _ (by omega)
  have v2 : IntKind.i64.wrap (ap + ad) = ap + ad := IntWalk.i64_in _ (by omega)
  by_cases c1 : bp + bd ≤ ap
  · have RE := Lib.hid (show rebE ⟨ap, ad, at_⟩ ⟨bp, bd, bt⟩ = ⟨ap + bt.size - bd, ad, at_⟩ by simp [rebE, ma, mb, c1])
    have RO := Lib.hid (show rebO ⟨ap, ad, at_⟩ ⟨bp, bd, bt⟩ = true by simp [rebO, ma, mb, c1])
    have d1 : decide (bp + bd ≤ ap) = true := by simp [c1]
    have v3 : IntKind.i64.wrap ((bt.size : Int) - bd) = bt.size - bd := IntWalk.i64_in _ (by omega)
    have v4 : IntKind.i64.wrap (ap + ((bt.size : Int) - bd)) = ap + (bt.size - bd) := IntWalk.i64_in _ (by omega)
    have v5 : IntKind.i64.wrap (ap + (bt.size : Int)) = ap + bt.size := IntWalk.i64_in _ (by omega)
    have v6 : IntKind.i64.wrap (ap + (bt.size : Int) - bd) = ap + bt.size - bd := IntWalk.i64_in _ (by omega)
    have HAS := Lib.hid (show ap + ((bt.size : Int) - bd) = ap + bt.size - bd by omega)
    have hne3 : w.heap.size + 1 + 1 ≠ w.heap.size := by omega
    go_enter Try.func22, Try.ntmps22
    go_wp2_with fail
    rw [← WAIT.out]
    refine (small_any ap ad at_ _).mono ?_
    rintro e w1 ⟨rfl, hc1⟩
    rw [ma]
    have hb1 : Below (w.heap.size + 1 + 1 + 1) W0 w1 := hc1.mono (by omega)
    have A0 := KA.below hb1 (by omega)
    have B0 := KB.below hb1 (by omega)
    have Z0 := KZ.below hb1 (by omega)
    have a0 := A0.cell 0
    have a1 := A0.cell 1
    have a2 := A0.cell 2
    have b0 := B0.cell 0
    have b1 := B0.cell 1
    have b2 := B0.cell 2
    have z0 := Z0.cell 0
    have z1 := Z0.cell 1
    have z2 := Z0.cell 2
    have y0 := Z0.frozen 0
    have y1 := Z0.frozen 1
    have y2 := Z0.frozen 2
    have x0 := A0.frozen 0
    simp at a0 a1 a2 b0 b1 b2 z0 z1 z2
    go_wp2_with fail
    refine (small_any bp bd bt _).mono ?_
    rintro e w2 ⟨rfl, hc2⟩
    rw [mb]
    have hb2 : Below (w.heap.size + 1 + 1 + 1) W0 w2 := hb1.trans (hc2.mono (by have := hb1.size; omega))
    have A0 := KA.below hb2 (by omega)
    have B0 := KB.below hb2 (by omega)
    have Z0 := KZ.below hb2 (by omega)
    have a0 := A0.cell 0
    have a1 := A0.cell 1
    have a2 := A0.cell 2
    have b0 := B0.cell 0
    have b1 := B0.cell 1
    have b2 := B0.cell 2
    have z0 := Z0.cell 0
    have z1 := Z0.cell 1
    have z2 := Z0.cell 2
    have y0 := Z0.frozen 0
    have y1 := Z0.frozen 1
    have y2 := Z0.frozen 2
    have x0 := A0.frozen 0
    simp at a0 a1 a2 b0 b1 b2 z0 z1 z2
    go_wp2_with fail
    have r1 := Z0.set3 (.int .i64 (ap + bt.size - bd)) (.int .i64 ad) (.string at_)
    refine bodyPost_ret (results_edit_any rfl rfl (r1.cell 0) (r1.cell 1) (r1.cell 2) rfl) rfl ⟨by rw [RE.out, RO.out]; rfl, ?_⟩
    exact (((hbW.trans (hb2.mono (by omega))).setCell (by simp; omega) _).setCell (by simp; omega) _).setCell (by simp; omega) _
  have d1 : decide (bp + bd ≤ ap) = false := by simp [c1]
  by_cases c2 : ap + ad ≤ bp
  · have RE := Lib.hid (show rebE ⟨ap, ad, at_⟩ ⟨bp, bd, bt⟩ = ⟨ap, ad, at_⟩ by simp [rebE, ma, mb, c1, c2])
    have RO := Lib.hid (show rebO ⟨ap, ad, at_⟩ ⟨bp, bd, bt⟩ = true by simp [rebO, ma, mb, c2])
    have d2 : decide (ap + ad ≤ bp) = true := by simp [c2]
    go_enter Try.func22, Try.ntmps22
    go_wp2_with fail
    rw [← WAIT.out]
    refine (small_any ap ad at_ _).mono ?_
    rintro e w1 ⟨rfl, hc1⟩
    rw [ma]
    have hb1 : Below (w.heap.size + 1 + 1 + 1) W0 w1 := hc1.mono (by omega)
    have A0 := KA.below hb1 (by omega)
    have B0 := KB.below hb1 (by omega)
    have Z0 := KZ.below hb1 (by omega)
    have a0 := A0.cell 0
    have a1 := A0.cell 1
    have a2 := A0.cell 2
    have b0 := B0.cell 0
    have b1 := B0.cell 1
    have b2 := B0.cell 2
    have z0 := Z0.cell 0
    have z1 := Z0.cell 1
    have z2 := Z0.cell 2
    have y0 := Z0.frozen 0
    have y1 := Z0.frozen 1
    have y2 := Z0.frozen 2
    have x0 := A0.frozen 0
    simp at a0 a1 a2 b0 b1 b2 z0 z1 z2
    go_wp2_with fail
    refine (small_any bp bd bt _).mono ?_
    rintro e w2 ⟨rfl, hc2⟩
    rw [mb]
    have hb2 : Below (w.heap.size + 1 + 1 + 1) W0 w2 := hb1.trans (hc2.mono (by have := hb1.size; omega))
    have A0 := KA.below hb2 (by omega)
    have B0 := KB.below hb2 (by omega)
    have Z0 := KZ.below hb2 (by omega)
    have a0 := A0.cell 0
    have a1 := A0.cell 1
    have a2 := A0.cell 2
    have b0 := B0.cell 0
    have b1 := B0.cell 1
    have b2 := B0.cell 2
    have z0 := Z0.cell 0
    have z1 := Z0.cell 1
    have z2 := Z0.cell 2
    have y0 := Z0.frozen 0
    have y1 := Z0.frozen 1
    have y2 := Z0.frozen 2
    have x0 := A0.frozen 0
    simp at a0 a1 a2 b0 b1 b2 z0 z1 z2
    go_wp2_with fail
    have r1 := Z0.set3 (.int .i64 ap) (.int .i64 ad) (.string at_)
    refine bodyPost_ret (results_edit_any rfl rfl (r1.cell 0) (r1.cell 1) (r1.cell 2) rfl) rfl ⟨by rw [RE.out, RO.out]; rfl, ?_⟩
    exact (((hbW.trans (hb2.mono (by omega))).setCell (by simp; omega) _).setCell (by simp; omega) _).setCell (by simp; omega) _
  · have RE := Lib.hid (show rebE ⟨ap, ad, at_⟩ ⟨bp, bd, bt⟩ = ⟨0, 0, ⟨#[]⟩⟩ by simp [rebE, ma, mb, c1, c2])
    have RO := Lib.hid (show rebO ⟨ap, ad, at_⟩ ⟨bp, bd, bt⟩ = false by simp [rebO, ma, mb, c1, c2])
    have d2 : decide (ap + ad ≤ bp) = false := by simp [c2]
    go_enter Try.func22, Try.ntmps22
    go_wp2_with fail
    rw [← WAIT.out]
    refine (small_any ap ad at_ _).mono ?_
    rintro e w1 ⟨rfl, hc1⟩
    rw [ma]
    have hb1 : Below (w.heap.size + 1 + 1 + 1) W0 w1 := hc1.mono (by omega)
    have A0 := KA.below hb1 (by omega)
    have B0 := KB.below hb1 (by omega)
    have Z0 := KZ.below hb1 (by omega)
    have a0 := A0.cell 0
    have a1 := A0.cell 1
    have a2 := A0.cell 2
    have b0 := B0.cell 0
    have b1 := B0.cell 1
    have b2 := B0.cell 2
    have z0 := Z0.cell 0
    have z1 := Z0.cell 1
    have z2 := Z0.cell 2
    have y0 := Z0.frozen 0
    have y1 := Z0.frozen 1
    have y2 := Z0.frozen 2
    have x0 := A0.frozen 0
    simp at a0 a1 a2 b0 b1 b2 z0 z1 z2
    go_wp2_with fail
    refine (small_any bp bd bt _).mono ?_
    rintro e w2 ⟨rfl, hc2⟩
    rw [mb]
    have hb2 : Below (w.heap.size + 1 + 1 + 1) W0 w2 := hb1.trans (hc2.mono (by have := hb1.size; omega))
    have A0 := KA.below hb2 (by omega)
    have B0 := KB.below hb2 (by omega)
    have Z0 := KZ.below hb2 (by omega)
    have a0 := A0.cell 0
    have a1 := A0.cell 1
    have a2 := A0.cell 2
    have b0 := B0.cell 0
    have b1 := B0.cell 1
    have b2 := B0.cell 2
    have z0 := Z0.cell 0
    have z1 := Z0.cell 1
    have z2 := Z0.cell 2
    have y0 := Z0.frozen 0
    have y1 := Z0.frozen 1
    have y2 := Z0.frozen 2
    have x0 := A0.frozen 0
    simp at a0 a1 a2 b0 b1 b2 z0 z1 z2
    go_wp2_with fail
    have r1 := Z0.set3 (.int .i64 0) (.int .i64 0) (.string ⟨#[]⟩)
    refine bodyPost_ret (results_edit_any rfl rfl (r1.cell 0) (r1.cell 1) (r1.cell 2) rfl) rfl ⟨by rw [RE.out, RO.out]; rfl, ?_⟩
    exact (((hbW.trans (hb2.mono (by omega))).setCell (by simp; omega) _).setCell (by simp; omega) _).setCell (by simp; omega) _
end Go.Proofs.Ytocihnncfpmbnaa
