/- awake returns true. -/
import Derived.Test.YtepohmklbfkdfaaUFew
namespace Go.Proofs.Ytepohmklbfkdfaa
open Go.RowKit

def Ed.key (e : Ed) : Int × Int × List UInt8 := (e.pos, e.del, bl e.ins)
theorem Ed.key_inj {a b : Ed} (h : a.key = b.key) : a = b := by
  obtain ⟨p, d, t⟩ := a
  obtain ⟨p', d', t'⟩ := b
  simp only [Ed.key, Prod.mk.injEq] at h
  obtain ⟨h1, h2, h3⟩ := h
  have := bl_inj h3
  subst h1; subst h2; subst this
  rfl
theorem keys_inj : ∀ {l m : List Ed}, l.map Ed.key = m.map Ed.key → l = m
  | [], [], _ => rfl
  | [], _ :: _, h => by simp at h
  | _ :: _, [], h => by simp at h
  | a :: l, b :: m, h => by
    simp only [List.map_cons, List.cons.injEq] at h
    rw [Ed.key_inj h.1, keys_inj h.2]
theorem hs_eq {h : HS} {t : ByteArray} {v : Nat} {U R : List Ed} (h1 : bl h.t = bl t) (h2 : h.v = v) (h3 : h.U.map Ed.key = U.map Ed.key) (h4 : h.R.map Ed.key = R.map Ed.key) : h = ⟨t, v, U, R⟩ := by
  obtain ⟨t', v', U', R'⟩ := h
  have e1 := bl_inj h1
  have e3 := keys_inj h3
  have e4 := keys_inj h4
  simp only at h2 e1 e3 e4
  subst e1; subst h2; subst e3; subst e4
  rfl
def x0 : HS := ⟨⟨#[97, 98, 99]⟩, 0, [], []⟩
def x1 : HS := ⟨⟨#[97, 120, 121, 99]⟩, 1, [⟨1, 2, ⟨#[98]⟩⟩], []⟩
def x2 : HS := ⟨⟨#[122, 97, 120, 121, 99]⟩, 2, [⟨1, 2, ⟨#[98]⟩⟩, ⟨0, 1, ⟨#[]⟩⟩], []⟩
def x3 : HS := ⟨⟨#[97, 120, 121, 99]⟩, 3, [⟨1, 2, ⟨#[98]⟩⟩], [⟨0, 0, ⟨#[122]⟩⟩]⟩
def x4 : HS := ⟨⟨#[97, 98, 99]⟩, 4, [], [⟨0, 0, ⟨#[122]⟩⟩, ⟨1, 1, ⟨#[120, 121]⟩⟩]⟩
def x5 : HS := ⟨⟨#[97, 120, 121, 99]⟩, 5, [⟨1, 2, ⟨#[98]⟩⟩], [⟨0, 0, ⟨#[122]⟩⟩]⟩
theorem x0_new : (CH.new ⟨#[97, 98, 99]⟩).hs = x0 := hs_eq (by decide +kernel) (by decide +kernel) (by decide +kernel) (by decide +kernel)
theorem x1_do : doE x0 ⟨1, 1, ⟨#[120, 121]⟩⟩ = 0 ∧ doH x0 ⟨1, 1, ⟨#[120, 121]⟩⟩ = x1 := ⟨by decide +kernel, hs_eq (by decide +kernel) (by decide +kernel) (by decide +kernel) (by decide +kernel)⟩
theorem x2_do : doE x1 ⟨0, 0, ⟨#[122]⟩⟩ = 0 ∧ doH x1 ⟨0, 0, ⟨#[122]⟩⟩ = x2 := ⟨by decide +kernel, hs_eq (by decide +kernel) (by decide +kernel) (by decide +kernel) (by decide +kernel)⟩
theorem x3_undo : undoE x2 = 0 ∧ undoX x2 = ⟨0, 1, ⟨#[]⟩⟩ ∧ undoH x2 = x3 := ⟨rfl, rfl, hs_eq (by decide +kernel) (by decide +kernel) (by decide +kernel) (by decide +kernel)⟩
theorem x4_undo : undoE x3 = 0 ∧ undoX x3 = ⟨1, 2, ⟨#[98]⟩⟩ ∧ undoH x3 = x4 := ⟨rfl, rfl, hs_eq (by decide +kernel) (by decide +kernel) (by decide +kernel) (by decide +kernel)⟩
theorem x5_redo : redoE x4 = 0 ∧ redoX x4 = ⟨1, 1, ⟨#[120, 121]⟩⟩ ∧ redoH x4 = x5 := ⟨rfl, rfl, hs_eq (by decide +kernel) (by decide +kernel) (by decide +kernel) (by decide +kernel)⟩
theorem small_of {h : HS} (h1 : h.t.size ≤ 10) (h2 : h.U.all (fun e => decide (e.ins.size ≤ 10)) = true) (h3 : h.R.all (fun e => decide (e.ins.size ≤ 10)) = true) (h4 : h.U.length ≤ 5) (h5 : h.R.length ≤ 5) : h.Small 1048576 900 :=
  ⟨by omega, fun e he => by have := List.all_eq_true.1 h2 e he; simp at this; omega, fun e he => by have := List.all_eq_true.1 h3 e he; simp at this; omega, by omega, by omega⟩
theorem HPost.next {F : Nat → Prop} {w w' : World} {g N : Nat} {h : HS} (hp : HPost w F g h w') (hF : ∀ k, F k → N ≤ k) (hN : N ≤ w.heap.size) :
    ∃ G : Nat → Prop, Hist w' G g h ∧ (∀ k, G k → k < w'.heap.size ∧ (F k ∨ w.heap.size ≤ k)) ∧ Touch F w w' ∧ Below N w w' := by
  obtain ⟨G, h1, h2, h3⟩ := hp
  obtain ⟨G', g1, g2⟩ := h1.precise
  exact ⟨G', g2, fun k hk => ⟨(g1 k hk).2, h3 k (g1 k hk).1⟩, h2, h2.toBelow hF hN⟩
theorem ex_list : ((ByteArray.mk #[122, 97, 120, 121, 99]).toList == [122, 97, 120, 121, 99]) = true := by rw [ByteArray.toList_eq]; decide
theorem Ed.eqb_self (a b : Int) (t : ByteArray) : Ed.eqb ⟨a, b, t⟩ ⟨a, b, t⟩ = true := by simp [Ed.eqb]

set_option maxRecDepth 100000 in
set_option maxHeartbeats 2000000 in
theorem awake_any (w : World) : Calls Try.prog 9 #[] w fun e w' => e = .returned (.bool true) ∧ Below w.heap.size w w' := by
  have E := run_eql_ed
  have ES := Ed.eqb_self
  have EX := ex_list
  go_enter Try.func9, Try.ntmps9
  go_wp2_with fail
  refine (new_any _ _).mono ?_
  rintro e w1 ⟨rfl, rfl⟩
  have H1 := new_hist ⟨#[97, 98, 99]⟩ w (fun k => w.heap.size ≤ k) (Nat.le_refl _)
  rw [x0_new] at H1
  have b1 : Below w.heap.size w (w.alloc (.cells #[.string ⟨#[97, 98, 99]⟩, .int .i64 0, .slice none 0 0, .slice none 0 0] 54)) := (Below.refl _ _).alloc (Nat.le_refl _) _
  have HH1 := Lib.hid H1
  clear H1
  generalize w.alloc (.cells #[.string ⟨#[97, 98, 99]⟩, .int .i64 0, .slice none 0 0, .slice none 0 0] 54) = w1 at *
  go_wp2_with fail
  refine (do_any (fun k => w.heap.size ≤ k) w.heap.size x0 1 1 ⟨#[120, 121]⟩ _ HH1.out (small_of (by decide) (by decide) (by decide) (by decide) (by decide)) (by decide) (by decide)).mono ?_
  rw [x1_do.1, x1_do.2]
  rintro e w2 ⟨rfl, hp⟩
  obtain ⟨H2, b2⟩ := hp.base b1.size
  have HH2 := Lib.hid H2
  have b2' := b1.trans b2
  clear hp H2 b2
  go_wp2_with fail
  refine (do_any (fun k => w.heap.size ≤ k) w.heap.size x1 0 0 ⟨#[122]⟩ _ HH2.out (small_of (by decide) (by decide) (by decide) (by decide) (by decide)) (by decide) (by decide)).mono ?_
  rw [x2_do.1, x2_do.2]
  rintro e w3 ⟨rfl, hp⟩
  obtain ⟨H3, b3⟩ := hp.base b2'.size
  have HH3 := Lib.hid H3
  have b3' := b2'.trans b3
  clear hp H3 b3
  go_wp2_with fail
  refine (text_any w.heap.size ⟨#[122, 97, 120, 121, 99]⟩ _ HH3.out.text).mono ?_
  rintro e w' ⟨rfl, rfl⟩
  go_wp2_with fail
  refine (undo_any (fun k => w.heap.size ≤ k) w.heap.size x2 _ HH3.out (small_of (by decide) (by decide) (by decide) (by decide) (by decide)) (by decide)).mono ?_
  rw [x3_undo.1, x3_undo.2.1, x3_undo.2.2]
  rintro e w4 ⟨rfl, hp⟩
  obtain ⟨G4, H4, g4, _, b4⟩ := hp.next (N := w.heap.size) (fun _ h => h) b3'.size
  have z4 := (b3'.trans b4).size
  have HH4 := Lib.hid (H4.alloc (.cells #[.int .i64 0, .int .i64 1, .string ⟨#[]⟩] 31))
  have b4' := (b3'.trans b4).alloc z4 (.cells #[.int .i64 0, .int .i64 1, .string ⟨#[]⟩] 31)
  have P4 := Blk.new' w4 31 #[.int .i64 0, .int .i64 1, .string ⟨#[]⟩] rfl
  have GG4 := Lib.hid (show ∀ k, G4 k → w.heap.size ≤ k ∧ k < w4.heap.size from fun k hk => ⟨by rcases (g4 k hk).2 with h | h; exact h; have := b3'.size; omega, (g4 k hk).1⟩)
  clear hp H4 b4 g4
  go_wp2_with fail
  refine (undo_any G4 w.heap.size x3 _ HH4.out (small_of (by decide) (by decide) (by decide) (by decide) (by decide)) (by decide)).mono ?_
  rw [x4_undo.1, x4_undo.2.1, x4_undo.2.2]
  rintro e w5 ⟨rfl, hp⟩
  obtain ⟨G5, H5, g5, t5, b5⟩ := hp.next (N := w.heap.size) (fun k h => (GG4.out k h).1) (by simp; omega)
  have z5 := (b4'.trans b5).size
  have s5 := t5.size
  simp only [World.size_alloc] at s5
  have P5 := (P4.touch t5 (fun h => by have := (GG4.out _ h).2; omega)).alloc (.cells #[.int .i64 1, .int .i64 2, .string ⟨#[98]⟩] 31)
  have Q5 := Blk.new' w5 31 #[.int .i64 1, .int .i64 2, .string ⟨#[98]⟩] rfl
  have HH5 := Lib.hid (H5.alloc (.cells #[.int .i64 1, .int .i64 2, .string ⟨#[98]⟩] 31))
  have b5' := (b4'.trans b5).alloc z5 (.cells #[.int .i64 1, .int .i64 2, .string ⟨#[98]⟩] 31)
  have GG5 := Lib.hid (show ∀ k, G5 k → w.heap.size ≤ k ∧ k < w5.heap.size ∧ k ≠ w4.heap.size from fun k hk => by
    obtain ⟨h1, h2⟩ := g5 k hk
    simp only [World.size_alloc] at h2
    rcases h2 with h2 | h2
    · have := GG4.out k h2; omega
    · omega)
  clear hp H5 b5 g5 t5 P4
  go_wp2_with fail
  refine (redo_any G5 w.heap.size x4 _ HH5.out (small_of (by decide) (by decide) (by decide) (by decide) (by decide)) (by decide)).mono ?_
  rw [x5_redo.1, x5_redo.2.1, x5_redo.2.2]
  rintro e w6 ⟨rfl, hp⟩
  obtain ⟨G6, H6, g6, t6, b6⟩ := hp.next (N := w.heap.size) (fun k h => (GG5.out k h).1) (by simp; omega)
  have z6 := (b5'.trans b6).size
  have s6 := t6.size
  simp only [World.size_alloc] at s6
  have P6 := (P5.touch t6 (fun h => (GG5.out _ h).2.2 rfl)).alloc (.cells #[.int .i64 1, .int .i64 1, .string ⟨#[120, 121]⟩] 31)
  have Q6 := (Q5.touch t6 (fun h => by have := (GG5.out _ h).2.1; omega)).alloc (.cells #[.int .i64 1, .int .i64 1, .string ⟨#[120, 121]⟩] 31)
  have R6 := Blk.new' w6 31 #[.int .i64 1, .int .i64 1, .string ⟨#[120, 121]⟩] rfl
  have HH6 := Lib.hid (H6.alloc (.cells #[.int .i64 1, .int .i64 1, .string ⟨#[120, 121]⟩] 31))
  have b6' := (b5'.trans b6).alloc z6 (.cells #[.int .i64 1, .int .i64 1, .string ⟨#[120, 121]⟩] 31)
  clear hp H6 b6 g6 t6 P5 Q5
  go_wp2_with fail
  refine (depth_any w.heap.size G6 x5 _ HH6.out).mono ?_
  rintro e w7 ⟨rfl, k7, rfl⟩
  have p0 := (P6.drewN k7).cell 0
  have p1 := (P6.drewN k7).cell 1
  have p2 := (P6.drewN k7).cell 2
  have q0 := (Q6.drewN k7).cell 0
  have q1 := (Q6.drewN k7).cell 1
  have q2 := (Q6.drewN k7).cell 2
  have r0 := (R6.drewN k7).cell 0
  have r1 := (R6.drewN k7).cell 1
  have r2 := (R6.drewN k7).cell 2
  simp at p0 p1 p2 q0 q1 q2 r0 r1 r2
  have V := (HH6.out.drewN k7).ver
  have e1 : ((x5.U.length : Nat) : Int) = 1 := rfl
  have e2 : ((x5.R.length : Nat) : Int) = 1 := rfl
  rw [e1, e2]
  clear e1 e2
  have HV := Lib.hid V
  clear V
  go_wp2_with fail
  refine (version_any w.heap.size 5 _ HV.out).mono ?_
  rintro e w' ⟨rfl, rfl⟩
  go_wp2_with fail
  go_ret
  exact ⟨rfl, below_drewN b6' _⟩
end Go.Proofs.Ytepohmklbfkdfaa
