/- Edits as data; Apply and Invert return the edited text and the inverse edit, or ErrRange. -/
import Derived.Test.YthpdfgfefmoaaaaBase
import Derived.StillTailTactics
namespace Go.Proofs.Ythpdfgfefmoaaaa
open Go.RowKit

structure Ed where
  pos : Int
  del : Int
  ins : ByteArray

def Ed.ok (n : Nat) (e : Ed) : Bool := decide (0 ≤ e.pos ∧ 0 ≤ e.del ∧ e.pos ≤ n ∧ e.del ≤ n - e.pos)
theorem Ed.ok_iff {n : Nat} {e : Ed} : e.ok n = true ↔ 0 ≤ e.pos ∧ 0 ≤ e.del ∧ e.pos ≤ n ∧ e.del ≤ n - e.pos := by simp [Ed.ok]
theorem Ed.ok_no {n : Nat} {e : Ed} (h : ¬ (0 ≤ e.pos ∧ 0 ≤ e.del ∧ e.pos ≤ n ∧ e.del ≤ n - e.pos)) : e.ok n = false := by simp [Ed.ok, h]
/-- The edited text; the empty one where the edit does not fit. -/
def apT (s : ByteArray) (e : Ed) : ByteArray := if e.ok s.size then s.extract 0 e.pos.toNat ++ e.ins ++ s.extract (e.pos.toNat + e.del.toNat) s.size else ⟨#[]⟩
def apF (s : ByteArray) (e : Ed) : Int := if e.ok s.size then 0 else 2
def inv (s : ByteArray) (e : Ed) : Ed := if e.ok s.size then ⟨e.pos, e.ins.size, s.extract e.pos.toNat (e.pos.toNat + e.del.toNat)⟩ else ⟨0, 0, ⟨#[]⟩⟩

set_option maxHeartbeats 1000000 in
theorem fits_any (n : Nat) (a b : Int) (s : ByteArray) (w : World) (hn : n ≤ maxLen) :
    Calls Try.prog 33 #[.int .i64 n, .agg #[.int .i64 a, .int .i64 b, .string s]] w fun e w' => e = .returned (.bool (Ed.ok n ⟨a, b, s⟩)) ∧ Below w.heap.size w w' := by
  unfold maxLen at hn
  by_cases h1 : 0 ≤ a
  case neg =>
    have r := Lib.hid (Ed.ok_no (n := n) (e := ⟨a, b, s⟩) (by simp only; omega))
    have t1 : decide (0 ≤ a) = false := by simp; omega
    go_enter Try.func33, Try.ntmps33
    go_wp2_with fail
    go_ret
    exact ⟨ret_bool r.out.symm, (Below.refl _ _).alloc (Nat.le_refl _) _⟩
  have t1 : decide (0 ≤ a) = true := by simp; omega
  by_cases h2 : 0 ≤ b
  case neg =>
    have r := Lib.hid (Ed.ok_no (n := n) (e := ⟨a, b, s⟩) (by simp only; omega))
    have t2 : decide (0 ≤ b) = false := by simp; omega
    go_enter Try.func33, Try.ntmps33
    go_wp2_with fail
    go_ret
    exact ⟨ret_bool r.out.symm, (Below.refl _ _).alloc (Nat.le_refl _) _⟩
  have t2 : decide (0 ≤ b) = true := by simp; omega
  by_cases h3 : a ≤ n
  case neg =>
    have r := Lib.hid (Ed.ok_no (n := n) (e := ⟨a, b, s⟩) (by simp only; omega))
    have t3 : decide (a ≤ (n : Int)) = false := by simp; omega
    go_enter Try.func33, Try.ntmps33
    go_wp2_with fail
    go_ret
    exact ⟨ret_bool r.out.symm, (Below.refl _ _).alloc (Nat.le_refl _) _⟩
  have t3 : decide (a ≤ (n : Int)) = true := by simp; omega
  by_cases h4 : b ≤ n - a
  · have r := Lib.hid (Ed.ok_iff (n := n) (e := ⟨a, b, s⟩) |>.2 ⟨h1, h2, h3, h4⟩)
    have t4 : decide (b ≤ (n : Int) - a) = true := by simp; omega
    go_enter Try.func33, Try.ntmps33
    go_wp2_with fail
    go_ret
    exact ⟨ret_bool r.out.symm, (Below.refl _ _).alloc (Nat.le_refl _) _⟩
  · have r := Lib.hid (Ed.ok_no (n := n) (e := ⟨a, b, s⟩) (by simp only; omega))
    have t4 : decide (b ≤ (n : Int) - a) = false := by simp; omega
    go_enter Try.func33, Try.ntmps33
    go_wp2_with fail
    go_ret
    exact ⟨ret_bool r.out.symm, (Below.refl _ _).alloc (Nat.le_refl _) _⟩

set_option maxHeartbeats 1000000 in
theorem apply_any (s : ByteArray) (a b : Int) (t : ByteArray) (w : World) (hs : s.size + t.size ≤ 9223372036854775807) :
    Calls Try.prog 21 #[.string s, .agg #[.int .i64 a, .int .i64 b, .string t]] w fun e w' => e = .returned (.tuple #[.string (apT s ⟨a, b, t⟩), .int .i64 (apF s ⟨a, b, t⟩)]) ∧ Below w.heap.size w w' := by
  unfold apT apF
  cases hok : Ed.ok s.size ⟨a, b, t⟩ with
  | false =>
    go_enter Try.func21, Try.ntmps21
    go_wp2_with (go_at_call 33; refine (fits_any s.size a b t _ (by unfold maxLen; omega)).mono ?_; rintro e w1 ⟨rfl, hb1⟩; rw [hok])
    go_ret2
    exact ⟨rfl, ((Below.refl _ _).alloc (Nat.le_refl _) _).trans (hb1.mono (by simp))⟩
  | true =>
    obtain ⟨h1, h2, h3, h4⟩ := Ed.ok_iff.1 hok
    simp only at h1 h2 h3 h4
    obtain ⟨i, rfl⟩ := Int.eq_ofNat_of_zero_le h1
    obtain ⟨j, rfl⟩ := Int.eq_ofNat_of_zero_le h2
    have hij : i + j ≤ s.size := by omega
    have HOK := Lib.hid hok
    have w1' : IntKind.i64.wrap ((i : Int) + (j : Int)) = (i : Int) + j := IntWalk.i64_in _ (by omega)
    have w2' : (0 : Int) ≤ (i : Int) + j := by omega
    have w3' : ((i : Int) + j).toNat = i + j := by omega
    have w4' : (i : Int) + j ≤ (s.size : Int) := by omega
    have w5' : ¬ (9223372036854775807 < min i s.size + t.size) := by omega
    have w6' : ¬ (9223372036854775807 < min i s.size + t.size + (s.size - (i + j))) := by omega
    clear hok h4
    go_enter Try.func21, Try.ntmps21
    go_wp2_with (go_at_call 33; refine (fits_any s.size i j t _ (by unfold maxLen; omega)).mono ?_; rintro e w1 ⟨rfl, hb1⟩; rw [HOK.out]; have k0 := (Blk.new' w 27 #[.int .i64 i, .int .i64 j, .string t] rfl).below hb1 (by simp); have c0 := k0.cell 0; have c1 := k0.cell 1; have c2 := k0.cell 2; simp at c0 c1 c2)
    go_quiet (fail)
    go_wp2_with fail
    go_ret2
    exact ⟨rfl, below_drewN (((Below.refl _ _).alloc (Nat.le_refl _) _).trans (hb1.mono (by simp))) _⟩
end Go.Proofs.Ythpdfgfefmoaaaa
