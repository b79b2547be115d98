/- The reference's sets of bytes and their classes. -/
import Derived.Test.YthpdfgfefmoaaaaBase
import Derived.StillTailTactics
namespace Go.Proofs.Ythpdfgfefmoaaaa
open Go.RowKit

structure S4 where
  a : Int
  b : Int
  c : Int
  d : Int
def S4.cells (s : S4) : List Value := [.int .u64 s.a, .int .u64 s.b, .int .u64 s.c, .int .u64 s.d]
def sets (l : List S4) : List Value := l.flatMap S4.cells
def S4.zero : S4 := ⟨0, 0, 0, 0⟩
def S4.at (s : S4) (q : Nat) : Int := match q with | 0 => s.a | 1 => s.b | 2 => s.c | _ => s.d
def bitOf (x : Nat) : Int := IntKind.u64.wrap (2 ^ (x % 64))
def S4.has (s : S4) (x : Nat) : Bool := bits .and .u64 (s.at (x / 64) / 2 ^ (x % 64)) 1 == 1
def S4.with (s : S4) (x : Nat) : S4 :=
  match x / 64 with
  | 0 => ⟨bits .or .u64 s.a (bitOf x), s.b, s.c, s.d⟩
  | 1 => ⟨s.a, bits .or .u64 s.b (bitOf x), s.c, s.d⟩
  | 2 => ⟨s.a, s.b, bits .or .u64 s.c (bitOf x), s.d⟩
  | _ => ⟨s.a, s.b, s.c, bits .or .u64 s.d (bitOf x)⟩

theorem sets_length (l : List S4) : (sets l).length = l.length * 4 := by
  induction l with
  | nil => rfl
  | cons t l ih => simp only [sets, List.flatMap_cons, List.length_append] at *; rw [ih]; simp [S4.cells]; omega
theorem sets_at : ∀ (l : List S4) (k : Nat) (t : S4) (j : Nat), l[k]? = some t → j < 4 → (sets l)[k * 4 + j]? = t.cells[j]?
  | [], _, _, _, h, _ => by simp at h
  | x :: l, 0, t, j, h, hj => by
    simp at h
    subst h
    simp only [sets, List.flatMap_cons]
    rw [List.getElem?_append_left (by simp [S4.cells]; omega)]
    simp
  | x :: l, k + 1, t, j, h, hj => by
    simp at h
    have := sets_at l k t j h hj
    simp only [sets, List.flatMap_cons] at *
    rw [List.getElem?_append_right (by simp [S4.cells]; omega)]
    rw [← this]
    congr 1
    simp [S4.cells]; omega
section
variable {w : World} {B n : Nat} {A : Option Addr} {l : List S4}
theorem Reads.len_sets (h : Reads w B 4 A n (sets l)) : l.length = n := by have := h.1; rw [sets_length] at this; omega
theorem Reads.set_at (h : Reads w B 4 A n (sets l)) {k : Nat} (hk : k < n) :
    ∃ b off t, A = some ⟨b, off, none⟩ ∧ b < B ∧ l[k]? = some t ∧ w.cell? ⟨b, off + k * 4, none⟩ = some (.int .u64 t.a) ∧ w.cell? ⟨b, off + k * 4 + 1, none⟩ = some (.int .u64 t.b) ∧
      w.cell? ⟨b, off + k * 4 + 2, none⟩ = some (.int .u64 t.c) ∧ w.cell? ⟨b, off + k * 4 + 3, none⟩ = some (.int .u64 t.d) := by
  obtain ⟨b, off, e, hb, hc⟩ := h.2 (by omega)
  have hl : k < l.length := by rw [h.len_sets]; exact hk
  have ht := List.getElem?_eq_getElem hl
  refine ⟨b, off, l[k], e, hb, ht, ?_, ?_, ?_, ?_⟩
  · have := hc (k * 4 + 0) (.int .u64 l[k].a) (by rw [sets_at l k _ 0 ht (by omega)]; rfl)
    simpa using this
  · have := hc (k * 4 + 1) (.int .u64 l[k].b) (by rw [sets_at l k _ 1 ht (by omega)]; rfl)
    simpa [Nat.add_assoc] using this
  · have := hc (k * 4 + 2) (.int .u64 l[k].c) (by rw [sets_at l k _ 2 ht (by omega)]; rfl)
    simpa [Nat.add_assoc] using this
  · have := hc (k * 4 + 3) (.int .u64 l[k].d) (by rw [sets_at l k _ 3 ht (by omega)]; rfl)
    simpa [Nat.add_assoc] using this
end

theorem results_set {fn : Func} {p : Tmp} (h : fn.results = #[.cell p 62]) {tmps : Array Value} {b o : Nat} (hp : tmps.getD p undef = .pointer (some ⟨b, o, none⟩)) {w : World} {x y z u : Int}
    (h0 : w.cell? ⟨b, o, none⟩ = some (.int .u64 x)) (h1 : w.cell? ⟨b, o + 1, none⟩ = some (.int .u64 y)) (h2 : w.cell? ⟨b, o + 2, none⟩ = some (.int .u64 z)) (h3 : w.cell? ⟨b, o + 3, none⟩ = some (.int .u64 u)) :
    (results fn tmps).run Try.prog w = .ok (.agg #[.int .u64 x, .int .u64 y, .int .u64 z, .int .u64 u]) w := by
  rw [results_cell h tmps _ hp]
  simp [go_sem, h0, h1, h2, h3]
theorem x64 (x : Nat) (hx : x < 256) : x / 64 = 0 ∨ x / 64 = 1 ∨ x / 64 = 2 ∨ x / 64 = 3 := by omega

set_option maxHeartbeats 400000 in
theorem has_any (a b c d : Int) (x : Nat) (w : World) (hx : x < 256) :
    Calls Try.prog 37 #[.agg #[.int .u64 a, .int .u64 b, .int .u64 c, .int .u64 d], .int .u8 x] w fun e w' => e = .returned (.bool (S4.has ⟨a, b, c, d⟩ x)) ∧ Below w.heap.size w w' := by
  unfold S4.has S4.at
  rcases x64 x hx with hq | hq | hq | hq
  all_goals
    rw [hq]
    go_enter Try.func37, Try.ntmps37
    go_wp2_with fail
    go_ret
    exact ⟨rfl, (Below.refl _ _).alloc (Nat.le_refl _) _⟩

set_option maxHeartbeats 400000 in
theorem with_any (a b c d : Int) (x : Nat) (w : World) (hx : x < 256) :
    Calls Try.prog 36 #[.agg #[.int .u64 a, .int .u64 b, .int .u64 c, .int .u64 d], .int .u8 x] w
      fun e w' => e = .returned (.agg #[.int .u64 (S4.with ⟨a, b, c, d⟩ x).a, .int .u64 (S4.with ⟨a, b, c, d⟩ x).b, .int .u64 (S4.with ⟨a, b, c, d⟩ x).c, .int .u64 (S4.with ⟨a, b, c, d⟩ x).d]) ∧ Below w.heap.size w w' := by
  unfold S4.with bitOf
  rcases x64 x hx with hq | hq | hq | hq
  all_goals
    rw [hq]
    go_enter Try.func36, Try.ntmps36
    go_wp2_with fail
    exact bodyPost_ret (results_set rfl rfl ((Blk.new' (w.alloc _) _ _ (by simp)).cell 0) ((Blk.new' (w.alloc _) _ _ (by simp)).cell 1) ((Blk.new' (w.alloc _) _ _ (by simp)).cell 2) ((Blk.new' (w.alloc _) _ _ (by simp)).cell 3)) rfl ⟨rfl, ((Below.refl _ _).alloc (Nat.le_refl _) _).alloc (by simp) _⟩

def rangeS (lo : Nat) : Nat → S4
  | 0 => S4.zero
  | k + 1 => (rangeS lo k).with (lo + k)
def ofS (x : ByteArray) : Nat → S4
  | 0 => S4.zero
  | k + 1 => (ofS x k).with (x.data[k]?.getD 0).toNat

set_option maxHeartbeats 1000000 in
theorem range_any (lo hi : Nat) (w : World) (hh : hi < 256) (hl : lo ≤ hi) :
    Calls Try.prog 31 #[.int .u8 lo, .int .u8 hi] w
      fun e w' => e = .returned (.agg #[.int .u64 (rangeS lo (hi + 1 - lo)).a, .int .u64 (rangeS lo (hi + 1 - lo)).b, .int .u64 (rangeS lo (hi + 1 - lo)).c, .int .u64 (rangeS lo (hi + 1 - lo)).d]) ∧ Below w.heap.size w w' := by
  go_enter Try.func31, Try.ntmps31
  go_wp2_with fail
  go_loopw [6] (fun a wr => ∃ k : Nat, lo + k ≤ hi + 1 ∧ a = .int .i64 (lo + k : Nat) ∧ Blk wr w.heap.size 62 #[.int .u64 0, .int .u64 0, .int .u64 0, .int .u64 0] ∧
      Blk wr (w.heap.size + 1) 62 #[.int .u64 (rangeS lo k).a, .int .u64 (rangeS lo k).b, .int .u64 (rangeS lo k).c, .int .u64 (rangeS lo k).d] ∧ Below w.heap.size w wr) (fun a _ => hi + 1 - (intOf a).toNat)
  case atStart => exact ⟨0, by omega, rfl, (Blk.new' w _ _ rfl).alloc _, Blk.new' (w.alloc _) _ _ (by simp), ((Below.refl _ _).alloc (Nat.le_refl _) _).alloc (by simp) _⟩
  case round =>
    obtain ⟨k, hk, rfl, K0, K1, hb⟩ := hrel
    have a0 := K1.cell 0
    have a1 := K1.cell 1
    have a2 := K1.cell 2
    have a3 := K1.cell 3
    simp at a0 a1 a2 a3
    by_cases hlt : lo + k ≤ hi
    · have hd : decide (((lo : Int) + (k : Int)) ≤ (hi : Int)) = true := by simp; omega
      go_wp2_with (go_at_call 36; refine (with_any _ _ _ _ (lo + k) wr (by omega)).mono ?_; rintro e w1 ⟨rfl, hb1⟩; have C1 := K1.below hb1 K1.lt; have c0 := C1.cell 0; have c1 := C1.cell 1; have c2 := C1.cell 2; have c3 := C1.cell 3; have f0 := C1.frozen 0; have f1 := C1.frozen 1; have f2 := C1.frozen 2; have f3 := C1.frozen 3; simp at c0 c1 c2 c3)
      go_roundw
      case rel =>
        have hs := hb.size
        exact ⟨k + 1, by omega, by go_num, (((((K0.below hb1 K0.lt).far (by simp) _).far (by simp) _).far (by simp) _).far (by simp) _), C1.set4 _ _ _ _, ((((hb.trans (hb1.mono hs)).setCell (by simp) _).setCell (by simp) _).setCell (by simp) _).setCell (by simp) _⟩
      case measure => simp [intOf]; omega
    · have hd : decide (((lo : Int) + (k : Int)) ≤ (hi : Int)) = false := by simp; omega
      obtain rfl : hi + 1 - lo = k := by omega
      have b0 := K0.cell 0
      have b1 := K0.cell 1
      have b2 := K0.cell 2
      have b3 := K0.cell 3
      have f0 := K0.frozen 0
      have f1 := K0.frozen 1
      have f2 := K0.frozen 2
      have f3 := K0.frozen 3
      simp at b0 b1 b2 b3
      go_wp2_with fail
      have K9 := K0.set4 (.int .u64 (rangeS lo (hi + 1 - lo)).a) (.int .u64 (rangeS lo (hi + 1 - lo)).b) (.int .u64 (rangeS lo (hi + 1 - lo)).c) (.int .u64 (rangeS lo (hi + 1 - lo)).d)
      exact bodyPost_ret (results_set rfl rfl (K9.cell 0) (K9.cell 1) (K9.cell 2) (K9.cell 3)) rfl ⟨rfl, (((hb.setCell (by simp) _).setCell (by simp) _).setCell (by simp) _).setCell (by simp) _⟩

set_option maxHeartbeats 1000000 in
theorem of_any (s : ByteArray) (w : World) (hs : s.size ≤ 1000) :
    Calls Try.prog 32 #[.string s] w
      fun e w' => e = .returned (.agg #[.int .u64 (ofS s s.size).a, .int .u64 (ofS s s.size).b, .int .u64 (ofS s s.size).c, .int .u64 (ofS s s.size).d]) ∧ Below w.heap.size w w' := by
  go_enter Try.func32, Try.ntmps32
  go_wp2_with fail
  go_loopw [4] (fun a wr => ∃ k : Nat, k ≤ s.size ∧ a = .int .i64 k ∧ Blk wr w.heap.size 62 #[.int .u64 0, .int .u64 0, .int .u64 0, .int .u64 0] ∧
      Blk wr (w.heap.size + 1) 62 #[.int .u64 (ofS s k).a, .int .u64 (ofS s k).b, .int .u64 (ofS s k).c, .int .u64 (ofS s k).d] ∧ Below w.heap.size w wr) (fun a _ => s.size - (intOf a).toNat)
  case atStart => exact ⟨0, by omega, rfl, (Blk.new' w _ _ rfl).alloc _, Blk.new' (w.alloc _) _ _ (by simp), ((Below.refl _ _).alloc (Nat.le_refl _) _).alloc (by simp) _⟩
  case round =>
    obtain ⟨k, hk, rfl, K0, K1, hb⟩ := hrel
    have a0 := K1.cell 0
    have a1 := K1.cell 1
    have a2 := K1.cell 2
    have a3 := K1.cell 3
    simp at a0 a1 a2 a3
    by_cases hlt : k < s.size
    · have hd : decide (k < s.size) = true := by simp [hlt]
      have he : (s.data[k]?.getD 0).toNat = s[k].toNat := by
        have h' : k < s.data.size := hlt
        rw [Array.getElem?_eq_getElem h']; rfl
      have HE := Lib.hid he
      clear he
      have hx := s[k].toNat_lt
      go_wp2_with fail
      go_still_tail 4, (by kernel_rfl)
      change wpList _ _ _ _ _ wr.drew
      go_wp2_with (go_at_call 36; refine (with_any _ _ _ _ s[k].toNat wr.drew (by omega)).mono ?_; rintro e w1 ⟨rfl, hb1⟩; have hb1 := below_from_drewN (n := 1) hb1; have C1 := K1.below hb1 K1.lt; have c0 := C1.cell 0; have c1 := C1.cell 1; have c2 := C1.cell 2; have c3 := C1.cell 3; have f0 := C1.frozen 0; have f1 := C1.frozen 1; have f2 := C1.frozen 2; have f3 := C1.frozen 3; simp at c0 c1 c2 c3)
      go_roundw
      case rel =>
        have hs := hb.size
        have HW : ofS s (k + 1) = (ofS s k).with s[k].toNat := by show (ofS s k).with _ = _; rw [HE.out]
        rw [← HW]
        exact ⟨k + 1, by omega, by go_num, (((((K0.below hb1 K0.lt).far (by simp) _).far (by simp) _).far (by simp) _).far (by simp) _), C1.set4 _ _ _ _, ((((hb.trans (hb1.mono hs)).setCell (by simp) _).setCell (by simp) _).setCell (by simp) _).setCell (by simp) _⟩
      case measure => simp [intOf]; omega
    · have hd : decide (k < s.size) = false := by simp [hlt]
      obtain rfl : k = s.size := by omega
      have b0 := K0.cell 0
      have b1 := K0.cell 1
      have b2 := K0.cell 2
      have b3 := K0.cell 3
      have f0 := K0.frozen 0
      have f1 := K0.frozen 1
      have f2 := K0.frozen 2
      have f3 := K0.frozen 3
      simp at b0 b1 b2 b3
      go_wp2_with fail
      have K9 := K0.set4 (.int .u64 (ofS s s.size).a) (.int .u64 (ofS s s.size).b) (.int .u64 (ofS s s.size).c) (.int .u64 (ofS s s.size).d)
      exact bodyPost_ret (results_set rfl rfl (K9.cell 0) (K9.cell 1) (K9.cell 2) (K9.cell 3)) rfl ⟨rfl, (((hb.setCell (by simp) _).setCell (by simp) _).setCell (by simp) _).setCell (by simp) _⟩
end Go.Proofs.Ythpdfgfefmoaaaa
