/- The rope: its pieces. -/
import Derived.Test.YtibdcnmaodmghaaGreatDoorBase
import Derived.StillTailTactics
import Derived.BigRegion
section
namespace Go.Proofs.YtibdcnmaodmghaaGreatDoor
open Go.RowKit
set_option maxRecDepth 20000

/-- A rope's tree: the blocks of its nodes and their texts. -/
inductive Sh where
  | nil
  | leaf (g : Nat) (t : ByteArray)
  | inn (g : Nat) (l r : Sh) (h : Int)
def Sh.text : Sh → ByteArray
  | nil => ByteArray.empty
  | leaf _ t => t
  | inn _ l r _ => l.text ++ r.text
def Sh.ptr : Sh → Value
  | nil => .pointer none
  | leaf g _ => .pointer (some ⟨g, 0, none⟩)
  | inn g _ _ _ => .pointer (some ⟨g, 0, none⟩)
def Sh.At (w : World) (B : Nat) : Sh → Prop
  | nil => True
  | leaf g t => g < B ∧ 0 < t.size ∧ Blk w g 209 #[.string t, .pointer none, .pointer none, .int .i64 t.size, .int .i64 0]
  | inn g l r h => g < B ∧ l ≠ nil ∧ r ≠ nil ∧ l.At w B ∧ r.At w B ∧ Blk w g 209 #[.string ⟨#[]⟩, l.ptr, r.ptr, .int .i64 ((l.text.size + r.text.size : Nat) : Int), .int .i64 h]
theorem Sh.text_inn (g : Nat) (l r : Sh) (h : Int) : (Sh.inn g l r h).text.size = l.text.size + r.text.size := by simp [Sh.text]
theorem Sh.At.below {w w' : World} {B : Nat} : ∀ {s : Sh}, s.At w B → Below B w w' → s.At w' B
  | .nil, _, _ => trivial
  | .leaf _ _, ⟨h1, h2, h3⟩, hb => ⟨h1, h2, h3.below hb h1⟩
  | .inn _ _ _ _, ⟨h1, h2, h3, h4, h5, h6⟩, hb => ⟨h1, h2, h3, h4.below hb, h5.below hb, h6.below hb h1⟩
theorem Sh.At.more {w : World} {B B' : Nat} : ∀ {s : Sh}, s.At w B → B ≤ B' → s.At w B'
  | .nil, _, _ => trivial
  | .leaf _ _, ⟨h1, h2, h3⟩, hb => ⟨by omega, h2, h3⟩
  | .inn _ _ _ _, ⟨h1, h2, h3, h4, h5, h6⟩, hb => ⟨by omega, h2, h3, h4.more hb, h5.more hb, h6⟩
theorem Sh.At.pos {w : World} {B : Nat} : ∀ {s : Sh}, s.At w B → s ≠ .nil → 0 < s.text.size
  | .nil, _, h => absurd rfl h
  | .leaf _ _, ⟨_, h2, _⟩, _ => h2
  | .inn _ _ _ _, ⟨_, h2, _, h4, _, _⟩, _ => by rw [Sh.text_inn]; have := h4.pos h2; omega
/-- The root of a tree that is not empty. -/
theorem Sh.At.root {w : World} {B : Nat} {s : Sh} (h : s.At w B) (hn : s ≠ .nil) : ∃ (g : Nat) (t : ByteArray) (p q : Value) (z : Int), s.ptr = .pointer (some ⟨g, 0, none⟩) ∧ g < B ∧ Blk w g 209 #[.string t, p, q, .int .i64 (s.text.size : Int), .int .i64 z] := by
  cases s with
  | nil => exact absurd rfl hn
  | leaf g t => exact ⟨g, t, _, _, _, rfl, h.1, h.2.2⟩
  | inn g l r z => exact ⟨g, _, _, _, z, rfl, h.1, by rw [Sh.text_inn]; exact h.2.2.2.2.2⟩
/-- A tree of this text. -/
def RetSh (t : ByteArray) (w : World) (e : Ending) (w' : World) : Prop := ∃ s : Sh, e = .returned s.ptr ∧ s.text = t ∧ s.At w' w'.heap.size ∧ Below w.heap.size w w'

theorem toList_isEmpty (s : ByteArray) : s.toList.isEmpty = decide (s.size = 0) := by
  rw [ByteArray.toList_eq]
  show s.data.toList.isEmpty = decide (s.data.size = 0)
  rw [← Array.length_toList]
  cases s.data.toList <;> simp
set_option maxHeartbeats 400000 in
theorem leaf_any (s : ByteArray) (w : World) : Calls Tryz.prog 79 #[.string s] w (RetSh s w) := by
  have he := toList_isEmpty s
  by_cases hs : s.size = 0
  · have h0 : s = ByteArray.empty := ByteArray.ext (Array.eq_empty_of_size_eq_zero hs)
    rw [decide_eq_true hs] at he
    go_enter Tryz.func79, Tryz.ntmps79
    go_wp2_with fail
    go_ret
    exact ⟨.nil, rfl, h0.symm, trivial, Below.refl _ _⟩
  · have hp : 0 < s.size := by omega
    rw [decide_eq_false hs] at he
    go_enter Tryz.func79, Tryz.ntmps79
    go_wp2_with fail
    go_ret
    exact ⟨.leaf w.heap.size s, rfl, rfl, ⟨by simp, hp, Blk.new' _ _ _ rfl⟩, (Below.refl _ _).alloc (Nat.le_refl _) _⟩

theorem inn_at {a b : Sh} {w : World} {p1 p2 : Value} {n1 n2 : Nat} (ha : a.At w w.heap.size) (hb : b.At w w.heap.size) (na : a ≠ .nil) (nb : b ≠ .nil) (e1 : a.ptr = p1) (e2 : b.ptr = p2) (h1 : a.text.size = n1) (h2 : b.text.size = n2) (z : Int) :
    (Sh.inn w.heap.size a b z).At (w.alloc (.cells #[.string ⟨#[]⟩, p1, p2, .int .i64 ((n1 : Int) + (n2 : Int)), .int .i64 z] 209)).drew (w.alloc (.cells #[.string ⟨#[]⟩, p1, p2, .int .i64 ((n1 : Int) + (n2 : Int)), .int .i64 z] 209)).drew.heap.size := by
  subst e1 e2 h1 h2
  have hbel : Below w.heap.size w (w.alloc (.cells #[.string ⟨#[]⟩, a.ptr, b.ptr, .int .i64 ((a.text.size : Int) + (b.text.size : Int)), .int .i64 z] 209)).drew := below_drewN (n := 1) ((Below.refl _ _).alloc (Nat.le_refl _) _)
  refine ⟨by simp [World.drew], na, nb, (ha.below hbel).more hbel.size, (hb.below hbel).more hbel.size, ?_⟩
  rw [Int.natCast_add]
  exact Blk.drewN (Blk.new' _ _ _ rfl) 1
set_option maxHeartbeats 1000000 in
theorem inner_any (a b : Sh) (B : Nat) (w : World) (ha : a.At w B) (hb : b.At w B) (na : a ≠ .nil) (nb : b ≠ .nil) (hB : B ≤ w.heap.size) (hsz : a.text.size + b.text.size ≤ 1000000000) :
    Calls Tryz.prog 80 #[a.ptr, b.ptr] w fun e w' => ∃ g h, e = .returned (.pointer (some ⟨g, 0, none⟩)) ∧ (Sh.inn g a b h).At w' w'.heap.size ∧ Below w.heap.size w w' := by
  obtain ⟨g1, t1, p1, q1, z1, e1, l1, k1⟩ := ha.root na
  obtain ⟨g2, t2, p2, q2, z2, e2, l2, k2⟩ := hb.root nb
  have HA := Lib.hid (ha.more hB)
  have HB := Lib.hid (hb.more hB)
  have HE1 := Lib.hid e1
  have HE2 := Lib.hid e2
  rw [e1, e2]
  clear ha hb e1 e2
  generalize hn1 : a.text.size = n1 at *
  generalize hn2 : b.text.size = n2 at *
  have HN1 := Lib.hid hn1
  have HN2 := Lib.hid hn2
  clear hn1 hn2
  have c13 := k1.cell 3
  have c14 := k1.cell 4
  have c23 := k2.cell 3
  have c24 := k2.cell 4
  simp at c13 c14 c23 c24
  go_enter Tryz.func80, Tryz.ntmps80
  go_wp2_with fail
  go_still_tail 21, (by kernel_rfl)
  change wpList _ _ _ _ _ w.drew
  go_wp2_with fail
  all_goals
    go_ret
    exact ⟨w.heap.size, rfl, ⟨_, inn_at HA.out HB.out na nb HE1.out HE2.out HN1.out HN2.out _⟩, below_drewN (n := 1) ((Below.refl _ _).alloc (Nat.le_refl _) _)⟩
end Go.Proofs.YtibdcnmaodmghaaGreatDoor
end
