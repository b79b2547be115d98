/- What a slice in memory reads as; tokens; the lexer and its reference; equal rows. -/
import Derived.Test.YtibdcnmaodmghaaGreatDoorRows
import Derived.WalkKit
import Derived.WalkSpells
import Derived.WalkLawsBesides
import Derived.Deep.QuietTactic
import Derived.BigQuiet
import Derived.Lib.Hide
import Derived.Deep.Draws
import Derived.Deep.AppendLies
import Derived.Deep.RegionHeld3
import Derived.Deep.DeepFit
import Derived.StillTailTactics
section
namespace Go.Proofs.YtibdcnmaodmghaaGreatDoor
open Go.RowKit

theorem block_of_add (a : Addr) (n : Nat) : (a.add n).block = a.block := by unfold Addr.add; split <;> rfl

/-- The slice with address A and n elements of 'size' cells holds the cells xs; it lies below block B. -/
def Reads (w : World) (B size : Nat) (A : Option Addr) (n : Nat) (xs : List Value) : Prop :=
  xs.length = n * size ∧ (0 < n → ∃ b off, A = some ⟨b, off, none⟩ ∧ b < B ∧ ∀ j u, xs[j]? = some u → w.cell? ⟨b, off + j, none⟩ = some u)

section
variable {w w' : World} {B B' size n : Nat} {A : Option Addr} {xs : List Value}
theorem Reads.nil_ : Reads w B size A 0 [] := ⟨by simp, fun h => absurd h (by omega)⟩
theorem Reads.keep (h : Reads w B size A n xs) (hk : ∀ p : Addr, p.block < B → w'.cell? p = w.cell? p) : Reads w' B size A n xs :=
  ⟨h.1, fun hn => by
    obtain ⟨b, off, e, hb, hc⟩ := h.2 hn
    exact ⟨b, off, e, hb, fun j u hu => (hk _ hb).trans (hc j u hu)⟩⟩
theorem Reads.more (h : Reads w B size A n xs) (hB : B ≤ B') : Reads w B' size A n xs :=
  ⟨h.1, fun hn => by
    obtain ⟨b, off, e, hb, hc⟩ := h.2 hn
    exact ⟨b, off, e, by omega, hc⟩⟩
theorem Reads.below (h : Reads w B size A n xs) (hb : Below B w w') : Reads w' B size A n xs := h.keep fun _ hp => hb.cell hp
theorem Reads.drew (h : Reads w B size A n xs) : Reads w.drew B size A n xs := h
theorem Reads.drewN (h : Reads w B size A n xs) (k : Nat) : Reads (w.drewN k) B size A n xs := h
theorem Reads.alloc (h : Reads w B size A n xs) (hB : B ≤ w.heap.size) (o : Obj) : Reads (w.alloc o) B size A n xs := h.keep fun p hp => World.cell?_alloc_lt w o p (by omega)
theorem Reads.setCell (h : Reads w B size A n xs) {p : Addr} (hB : B ≤ p.block) (u : Value) : Reads (w.setCell p u) B size A n xs :=
  h.keep fun q hq => World.cell?_setCell_other w p q u (fun e => by subst e; omega)
theorem Reads.grown (h : Reads w B size A n xs) {row : Option Nat} (hg : w.grownBy w' row) (hB : B ≤ w.heap.size) (hr : ∀ g, row = some g → B ≤ g) : Reads w' B size A n xs :=
  h.keep fun p hp => World.cell?_of_block (hg.block p.block (by omega) (fun e => by have := hr _ e.symm; omega))
/-- Below the heap's size it is in any case. -/
theorem Reads.top (h : Reads w B size A n xs) : Reads w w.heap.size size A n xs ∨ xs = [] := by
  rcases Nat.eq_zero_or_pos n with h0 | h0
  · right; subst h0; exact List.eq_nil_of_length_eq_zero (by simpa using h.1)
  · rcases Nat.eq_zero_or_pos size with s0 | s0
    · right; subst s0; exact List.eq_nil_of_length_eq_zero (by simpa using h.1)
    · left
      refine ⟨h.1, fun hn => ?_⟩
      obtain ⟨b, off, e, hb, hc⟩ := h.2 hn
      refine ⟨b, off, e, ?_, hc⟩
      have hl : 0 < xs.length := by rw [h.1]; exact Nat.mul_pos h0 s0
      have := hc 0 xs[0] (List.getElem?_eq_getElem hl)
      exact World.block_lt_of_cell? w _ this
theorem Reads.of_own {base : Nat} {e : TypeId} {c : Nat} (h : w.ownsRow base e size (.slice A n c) n xs) : Reads w w.heap.size size A n xs := by
  refine ⟨h.1, fun hn => ?_⟩
  obtain ⟨g, cap, hv, _, hlt⟩ := h.form hn
  have hA : A = some ⟨g, 0, none⟩ := by injection hv
  subst hA
  refine ⟨g, 0, rfl, hlt, fun j u hu => ?_⟩
  have := h.cells (g := g) rfl j u hu
  rw [Addr.add_lit] at this
  exact this
/-- The form of an owned slice's value. -/
theorem own_form {base : Nat} {e : TypeId} {v : Value} (h : w.ownsRow base e size v n xs) : ∃ A c, v = .slice A n c ∧ n ≤ c ∧ c ≤ maxLen := by
  rcases h.2 with ⟨rfl, rfl⟩ | ⟨g, cap, cur, rfl, _, _, h1, h2, _⟩
  · exact ⟨none, 0, rfl, Nat.le_refl _, by unfold maxLen; omega⟩
  · exact ⟨_, _, rfl, h1, h2⟩
end

/-- Cells below B, and marks, read as before. -/
theorem bcell {w w1 : World} {B : Nat} (hb : Below B w w1) : (∀ b o, b < B → w1.cell? ⟨b, o, none⟩ = w.cell? ⟨b, o, none⟩) ∧ (∀ b o, b < B → w1.frozen? ⟨b, o, none⟩ = w.frozen? ⟨b, o, none⟩) :=
  ⟨fun b o h => hb.cell (p := ⟨b, o, none⟩) h, fun b o h => hb.frozen (p := ⟨b, o, none⟩) h⟩
theorem below_drewN {B : Nat} {a w : World} (h : Below B a w) (n : Nat) : Below B a (w.drewN n) := ⟨h.os, h.tape, h.output, h.size, h.block⟩
theorem below_from_drewN {B : Nat} {w w1 : World} {n : Nat} (h : Below B (w.drewN n) w1) : Below B w w1 := ⟨h.os, h.tape, h.output, h.size, h.block⟩
theorem cell_alloc {w : World} {a : Addr} {v : Value} (h : w.cell? a = some v) (o : Obj) : (w.alloc o).cell? a = some v := (World.cell?_alloc_lt w o a (World.block_lt_of_cell? w a h)).trans h
theorem ret_bool {a b : Bool} (h : a = b) : Ending.returned (.bool a) = .returned (.bool b) := by rw [h]
theorem ret_int {k : IntKind} {a b : Int} (h : a = b) : Ending.returned (.int k a) = .returned (.int k b) := by rw [h]
theorem drew0 (w : World) : ∃ k, w = w.drewN k := ⟨0, rfl⟩
theorem drew1 (w : World) (a : Nat) : ∃ k, w.drewN a = w.drewN k := ⟨a, rfl⟩
theorem drew2 (w : World) (a b : Nat) : ∃ k, (w.drewN a).drewN b = w.drewN k := ⟨_, World.drewN_drewN _ _ _⟩
theorem size_drewN (w : World) (n : Nat) : (w.drewN n).heap.size = w.heap.size := rfl

theorem results_cell {fn : Func} {p : Tmp} {ty : TypeId} (h : fn.results = #[.cell p ty]) (tmps : Array Value) (a : Addr) (hp : tmps.getD p undef = .pointer (some a)) (P : Program) (w : World) :
    (results fn tmps).run P w = (loadVar ty a).run P w := by
  simp only [results, h]
  have hq : tmps[p]?.getD undef = .pointer (some a) := by rw [← hp]; simp
  simp [hq, asAddr]

/-- Block g is just the cells cs of element type t, none of them frozen. -/
def Blk (w : World) (g : Nat) (t : TypeId) (cs : Array Value) : Prop := w.heap[g]? = some (.cells cs t (0, 0))
section
variable {w w' : World} {g : Nat} {t : TypeId} {cs : Array Value}
theorem Blk.lt (h : Blk w g t cs) : g < w.heap.size := by
  unfold Blk at h
  rcases Nat.lt_or_ge g w.heap.size with hlt | hge
  · exact hlt
  · rw [Array.getElem?_eq_none hge] at h; cases h
theorem Blk.cell (h : Blk w g t cs) (i : Nat) : w.cell? ⟨g, i, none⟩ = cs[i]? := cell_of_row w g i cs t (0, 0) h
theorem Blk.frozen (h : Blk w g t cs) (i : Nat) : w.frozen? ⟨g, i, none⟩ = false := by
  unfold Blk at h
  simp [World.frozen?, h]
theorem Blk.new (w : World) (t : TypeId) (cs : Array Value) : Blk (w.alloc (.cells cs t)) w.heap.size t cs := heap_alloc_new w _
theorem Blk.new' {g : Nat} (w : World) (t : TypeId) (cs : Array Value) (hg : w.heap.size = g) : Blk (w.alloc (.cells cs t)) g t cs := by subst hg; exact heap_alloc_new w _
theorem Blk.drewN (h : Blk w g t cs) (n : Nat) : Blk (w.drewN n) g t cs := h
theorem Blk.alloc (h : Blk w g t cs) (o : Obj) : Blk (w.alloc o) g t cs := (Below.heap_alloc w o g h.lt).trans h
theorem Blk.set_ (h : Blk w g t cs) (i : Nat) (u : Value) : Blk (w.setCell ⟨g, i, none⟩ u) g t (cs.setIfInBounds i u) := by
  unfold Blk at h ⊢
  simp [World.setCell, Array.getElem?_modify, h]
theorem Blk.far (h : Blk w g t cs) {p : Addr} (hp : g ≠ p.block) (u : Value) : Blk (w.setCell p u) g t cs := (Below.heap_setCell w p u g hp).trans h
theorem Blk.below {B : Nat} (h : Blk w g t cs) (hb : Below B w w') (hg : g < B) : Blk w' g t cs := (hb.block g hg).trans h
theorem Blk.grown {row : Option Nat} (h : Blk w g t cs) (hb : w.grownBy w' row) (hg : some g ≠ row) : Blk w' g t cs := (hb.block g h.lt hg).trans h
theorem Blk.set4 {a0 a1 a2 a3 : Value} (h : Blk w g t #[a0, a1, a2, a3]) (x0 x1 x2 x3 : Value) :
    Blk ((((w.setCell ⟨g, 0, none⟩ x0).setCell ⟨g, 1, none⟩ x1).setCell ⟨g, 2, none⟩ x2).setCell ⟨g, 3, none⟩ x3) g t #[x0, x1, x2, x3] := by
  have := (((h.set_ 0 x0).set_ 1 x1).set_ 2 x2).set_ 3 x3
  simpa using this
theorem Blk.ne_ {g' : Nat} {t' : TypeId} {cs' : Array Value} (h : Blk w g t cs) (h' : Blk w g' t' cs') (hne : t ≠ t') : g ≠ g' := by
  rintro rfl
  unfold Blk at h h'
  rw [h] at h'
  injection h' with h'
  injection h' with _ ht
  exact hne ht
end

theorem Reads.of_blk {w : World} {g B size n : Nat} {t : TypeId} {cs : Array Value} {xs : List Value} (h : Blk w g t cs) (hg : g < B) (hx : cs.toList = xs) (hn : xs.length = n * size) : Reads w B size (some ⟨g, 0, none⟩) n xs :=
  ⟨hn, fun _ => ⟨g, 0, rfl, hg, fun j u hu => by rw [Nat.zero_add, h.cell, ← Array.getElem?_toList, hx]; exact hu⟩⟩

/-- What is owned stays owned behind a call that turns nothing that was there. -/
theorem own_below {w w1 : World} {base : Nat} {e : TypeId} {size n : Nat} {v : Value} {xs : List Value} (h : w.ownsRow base e size v n xs) (hb : Below w.heap.size w w1) : w1.ownsRow base e size v n xs :=
  h.kept (row := none) ⟨hb.os, hb.tape, hb.output, hb.size, fun k hk _ => hb.block k hk⟩ (by cases hv : v.ownBlock <;> simp)

/-- Some bool, and what it is good for. -/
def RetIf (p : Prop) (w : World) (e : Ending) (w' : World) : Prop := ∃ b : Bool, e = .returned (.bool b) ∧ (b = true → p) ∧ Below w.heap.size w w'

/-- Integers as cells. -/
def ints (l : List Int) : List Value := l.map (Value.int .i64)
section
variable {w : World} {B n : Nat} {A : Option Addr}
theorem Reads.len_ints {l : List Int} (h : Reads w B 1 A n (ints l)) : l.length = n := by have := h.1; simpa [ints] using this
theorem Reads.int_at {l : List Int} (h : Reads w B 1 A n (ints l)) {k : Nat} (hk : k < n) :
    ∃ b off, A = some ⟨b, off, none⟩ ∧ b < B ∧ w.cell? ⟨b, off + k, none⟩ = some (.int .i64 (l[k]?.getD 0)) := by
  obtain ⟨b, off, e, hb, hc⟩ := h.2 (by omega)
  have hl : k < l.length := by rw [h.len_ints]; exact hk
  refine ⟨b, off, e, hb, hc k _ ?_⟩
  simp [ints, hl]
end

end Go.Proofs.YtibdcnmaodmghaaGreatDoor
end

section
namespace Go.Proofs.YtibdcnmaodmghaaGreatDoor
open Go.RowKit
set_option maxRecDepth 20000

structure Tok where
  kind : Int
  pos : Int
  text : ByteArray
  look : Int

def Tok.cells (t : Tok) : List Value := [.int .i64 t.kind, .int .i64 t.pos, .string t.text, .int .i64 t.look]
def toks (l : List Tok) : List Value := l.flatMap Tok.cells
def Tok.val (t : Tok) : Value := .agg #[.int .i64 t.kind, .int .i64 t.pos, .string t.text, .int .i64 t.look]
def Tok.eqb (a b : Tok) : Bool := a.kind == b.kind && (a.pos == b.pos && (a.text.toList == b.text.toList && a.look == b.look))

theorem toks_length (l : List Tok) : (toks l).length = l.length * 4 := by
  induction l with
  | nil => rfl
  | cons t l ih => simp only [toks, List.flatMap_cons, List.length_append] at *; rw [ih]; simp [Tok.cells]; omega
theorem toks_append (l m : List Tok) : toks (l ++ m) = toks l ++ toks m := by simp [toks]
theorem toks_at : ∀ (l : List Tok) (k : Nat) (t : Tok) (j : Nat), l[k]? = some t → j < 4 → (toks l)[k * 4 + j]? = t.cells[j]?
  | [], _, _, _, h, _ => by simp at h
  | x :: l, 0, t, j, h, hj => by
    simp at h
    subst h
    simp only [toks, List.flatMap_cons]
    rw [List.getElem?_append_left (by simp [Tok.cells]; omega)]
    simp
  | x :: l, k + 1, t, j, h, hj => by
    simp at h
    have := toks_at l k t j h hj
    simp only [toks, List.flatMap_cons] at *
    rw [List.getElem?_append_right (by simp [Tok.cells]; omega)]
    rw [← this]
    congr 1
    simp [Tok.cells]; omega

section
variable {w : World} {B n : Nat} {A : Option Addr} {l : List Tok}
theorem Reads.len_toks (h : Reads w B 4 A n (toks l)) : l.length = n := by have := h.1; rw [toks_length] at this; omega
theorem Reads.tok_at (h : Reads w B 4 A n (toks l)) {k : Nat} (hk : k < n) :
    ∃ b off t, A = some ⟨b, off, none⟩ ∧ b < B ∧ l[k]? = some t ∧ w.cell? ⟨b, off + k * 4, none⟩ = some (.int .i64 t.kind) ∧ w.cell? ⟨b, off + k * 4 + 1, none⟩ = some (.int .i64 t.pos) ∧
      w.cell? ⟨b, off + k * 4 + 2, none⟩ = some (.string t.text) ∧ w.cell? ⟨b, off + k * 4 + 3, none⟩ = some (.int .i64 t.look) := by
  obtain ⟨b, off, e, hb, hc⟩ := h.2 (by omega)
  have hl : k < l.length := by rw [h.len_toks]; exact hk
  have ht := List.getElem?_eq_getElem hl
  refine ⟨b, off, l[k], e, hb, ht, ?_, ?_, ?_, ?_⟩
  · have := hc (k * 4 + 0) (.int .i64 l[k].kind) (by rw [toks_at l k _ 0 ht (by omega)]; rfl)
    simpa using this
  · have := hc (k * 4 + 1) (.int .i64 l[k].pos) (by rw [toks_at l k _ 1 ht (by omega)]; rfl)
    simpa [Nat.add_assoc] using this
  · have := hc (k * 4 + 2) (.string l[k].text) (by rw [toks_at l k _ 2 ht (by omega)]; rfl)
    simpa [Nat.add_assoc] using this
  · have := hc (k * 4 + 3) (.int .i64 l[k].look) (by rw [toks_at l k _ 3 ht (by omega)]; rfl)
    simpa [Nat.add_assoc] using this
end

theorem Tok.underStruct : Tryz.prog.underlying 110 = some (.struct (Tryz.prog.fieldsOf 110)) := by kernel_rfl
theorem results_tok {fn : Func} {p : Tmp} (h : fn.results = #[.cell p 110]) {tmps : Array Value} {b o : Nat} (hp : tmps.getD p undef = .pointer (some ⟨b, o, none⟩)) {w : World} {k a l : Int} {t : ByteArray}
    (h0 : w.cell? ⟨b, o, none⟩ = some (.int .i64 k)) (h1 : w.cell? ⟨b, o + 1, none⟩ = some (.int .i64 a)) (h2 : w.cell? ⟨b, o + 2, none⟩ = some (.string t)) (h3 : w.cell? ⟨b, o + 3, none⟩ = some (.int .i64 l)) :
    (results fn tmps).run Tryz.prog w = .ok (.agg #[.int .i64 k, .int .i64 a, .string t, .int .i64 l]) w := by
  rw [results_cell h tmps _ hp]
  simp [go_sem, h0, h1, h2, h3]
theorem run_neq_tok (w : World) (a b c d : Int) (s t : ByteArray) (x y : Int) :
    (binOp .neq 110 (.agg #[.int .i64 a, .int .i64 b, .string s, .int .i64 x]) (.agg #[.int .i64 c, .int .i64 d, .string t, .int .i64 y])).run Tryz.prog w =
      .ok (.bool (!Tok.eqb ⟨a, b, s, x⟩ ⟨c, d, t, y⟩)) w := by
  unfold Tok.eqb
  simp only [binOp]
  by_cases h1 : a = c
  · by_cases h2 : b = d
    · by_cases h3 : s.toList = t.toList
      · by_cases h4 : x = y <;> simp [go_sem, Op.equal, Op.maxDepth, h1, h2, h3, h4]
      · simp [go_sem, Op.equal, Op.maxDepth, h1, h2, h3]
    · simp [go_sem, Op.equal, Op.maxDepth, h1, h2]
  · simp [go_sem, Op.equal, Op.maxDepth, h1]
end Go.Proofs.YtibdcnmaodmghaaGreatDoor
end

section
namespace Go.Proofs.YtibdcnmaodmghaaGreatDoor
open Go.RowKit
set_option maxRecDepth 20000

def sameT : List Tok → List Tok → Bool
  | [], [] => true
  | a :: l, b :: m => a.eqb b && sameT l m
  | _, _ => false
theorem sameT_len : ∀ {l m : List Tok}, l.length ≠ m.length → sameT l m = false
  | [], [], h => by simp at h
  | [], _ :: _, _ => rfl
  | _ :: _, [], _ => rfl
  | a :: l, b :: m, h => by simp only [sameT]; rw [sameT_len (l := l) (m := m) (by simpa using h)]; simp
theorem sameT_all : ∀ {l m : List Tok}, l.length = m.length → (∀ (i : Nat) (t u : Tok), l[i]? = some t → m[i]? = some u → Tok.eqb t u = true) → sameT l m = true
  | [], [], _, _ => rfl
  | [], _ :: _, h, _ => by simp at h
  | _ :: _, [], h, _ => by simp at h
  | a :: l, b :: m, h, hk => by
    simp only [sameT]
    rw [hk 0 a b rfl rfl, sameT_all (by simpa using h) (fun i t u h1 h2 => hk (i + 1) t u (by simpa using h1) (by simpa using h2))]
    rfl
theorem sameT_not : ∀ {l m : List Tok} {i : Nat} {t u : Tok}, l[i]? = some t → m[i]? = some u → t.eqb u = false → sameT l m = false
  | [], _, _, _, _, h, _, _ => by simp at h
  | _ :: _, [], _, _, _, _, h, _ => by simp at h
  | a :: l, b :: m, 0, t, u, h1, h2, h3 => by
    simp at h1 h2
    subst h1; subst h2
    simp [sameT, h3]
  | a :: l, b :: m, i + 1, t, u, h1, h2, h3 => by
    simp only [sameT]
    rw [sameT_not (i := i) (l := l) (m := m) (by simpa using h1) (by simpa using h2) h3]
    simp
theorem Tok.eqb_iff {a b : Tok} : a.eqb b = true ↔ a = b := by
  obtain ⟨k, p, t, l⟩ := a
  obtain ⟨k', p', t', l'⟩ := b
  simp only [Tok.eqb, Bool.and_eq_true, beq_iff_eq, Tok.mk.injEq]
  have ht : t.toList = t'.toList ↔ t = t' := by
    constructor
    · intro h
      exact ByteArray.ext (by rw [ByteArray.toList_eq, ByteArray.toList_eq] at h; exact Array.toList_inj.1 h)
    · intro h; rw [h]
  rw [ht]
theorem sameT_iff : ∀ {l m : List Tok}, sameT l m = true ↔ l = m
  | [], [] => by simp [sameT]
  | [], _ :: _ => by simp [sameT]
  | _ :: _, [] => by simp [sameT]
  | a :: l, b :: m => by simp only [sameT, Bool.and_eq_true, Tok.eqb_iff, sameT_iff, List.cons.injEq]

set_option maxHeartbeats 400000 in
theorem same_any (A C : Option Addr) (n m c d B B2 : Nat) (l r : List Tok) (w : World) (hl : Reads w B 4 A n (toks l)) (hr : Reads w B2 4 C m (toks r)) (hn : n ≤ maxLen) (_hm : m ≤ maxLen) :
    Calls Tryz.prog 19 #[.slice A n c, .slice C m d] w fun e w' => e = .returned (.bool (sameT l r)) ∧ ∃ k, w' = w.drewN k := by
  unfold maxLen at hn
  have hln := hl.len_toks
  have hrm := hr.len_toks
  by_cases hne : n = m
  · have hb : ((n : Int) != (m : Int)) = false := by simp [hne]
    have HN := Lib.hid hne
    have HL := Lib.hid hln
    have HR := Lib.hid hrm
    have hneq := fun w => run_neq_tok w
    clear hne hln hrm
    go_enter Tryz.func19, Tryz.ntmps19
    go_wp2_with fail
    go_loopw [5] (fun i wr => ∃ k : Nat, k ≤ n ∧ i = .int .i64 k ∧ (∃ nd, wr = w.drewN nd) ∧ Hid (∀ i, i < k → ∀ t u, l[i]? = some t → r[i]? = some u → t.eqb u = true)) (fun i _ => n - (intOf i).toNat)
    case atStart => exact ⟨0, Nat.zero_le _, rfl, ⟨0, rfl⟩, fun i hi => absurd hi (by omega)⟩
    case round =>
      obtain ⟨k, hk, rfl, ⟨nd, rfl⟩, hall⟩ := hrel
      by_cases hlt : k < n
      · have hlt2 : k < m := by rw [← HN.out]; exact hlt
        obtain ⟨b, off, t, rfl, _, ht, h0, h1, h2, h3⟩ := hl.tok_at hlt
        obtain ⟨b2, off2, u, rfl, _, hu, k0, k1, k2, k3⟩ := hr.tok_at hlt2
        have HT := Lib.hid ht
        have HU := Lib.hid hu
        clear ht hu hl hr
        go_wp2_with fail
        obtain ⟨tk, tp, tt, tl⟩ := t
        obtain ⟨uk, up, ut, ul⟩ := u
        simp only at h0 h1 h2 h3 k0 k1 k2 k3
        cases he : Tok.eqb ⟨tk, tp, tt, tl⟩ ⟨uk, up, ut, ul⟩
        · go_wp2_with fail
          go_quiet (fail)
          go_wp2_with fail
          go_ret
          exact ⟨ret_bool (sameT_not HT.out HU.out he).symm, drew2 _ _ _⟩
        · go_wp2_with fail
          go_quiet (fail)
          go_wp2_with fail
          go_roundw
          case rel =>
            refine ⟨k + 1, by omega, by go_num, ⟨_, rfl⟩, fun i hi t' u' g1 g2 => ?_⟩
            rcases Nat.lt_or_ge i k with h | h
            · exact hall.out i h t' u' g1 g2
            · obtain rfl : i = k := by omega
              have e1 := HT.out.symm.trans g1
              have e2 := HU.out.symm.trans g2
              injection e1 with e1
              injection e2 with e2
              subst e1; subst e2
              exact he
          case measure => simp [intOf]; omega
      · go_wp2_with fail
        go_ret
        refine ⟨ret_bool (sameT_all (by rw [HL.out, HR.out, HN.out]) fun i t u h1 h2 => ?_).symm, _, rfl⟩
        obtain ⟨hi, _⟩ := List.getElem?_eq_some_iff.1 h1
        have := HL.out
        exact hall.out i (by omega) t u h1 h2
  · have hb : ((n : Int) != (m : Int)) = true := by simp; omega
    have HN := Lib.hid hne
    clear hne
    go_enter Tryz.func19, Tryz.ntmps19
    go_wp2_with fail
    go_ret
    exact ⟨ret_bool (sameT_len (by rw [hln, hrm]; exact HN.out)).symm, 0, rfl⟩
end Go.Proofs.YtibdcnmaodmghaaGreatDoor
end

section
namespace Go.Proofs.YtibdcnmaodmghaaGreatDoor
open Go.RowKit
set_option maxRecDepth 20000


structure Dfa where
  cls : List Int
  next : List (List Int)
  acc : List Int

structure DfaV where
  Ac : Option Addr
  nc : Nat
  cc : Nat
  An : Option Addr
  nn : Nat
  cn : Nat
  Aa : Option Addr
  na : Nat
  ca : Nat
def DfaV.cells (v : DfaV) : Array Value := #[.slice v.Ac v.nc v.cc, .slice v.An v.nn v.cn, .slice v.Aa v.na v.ca]

structure DfaAt (w : World) (B : Nat) (v : DfaV) (d : Dfa) : Prop where
  cls : Reads w B 1 v.Ac v.nc (ints d.cls)
  acc : Reads w B 1 v.Aa v.na (ints d.acc)
  rows : ∃ rv : List Value, Reads w B 1 v.An v.nn rv ∧ rv.length = d.next.length ∧ ∀ (i : Nat) (r : List Int), d.next[i]? = some r → ∃ A n c, rv[i]? = some (.slice A n c) ∧ Reads w B 1 A n (ints r) ∧ n ≤ maxLen
  bc : v.nc ≤ maxLen
  bn : v.nn ≤ maxLen
  ba : v.na ≤ maxLen

section
variable {w w' : World} {B B' : Nat} {v : DfaV} {d : Dfa}
theorem DfaAt.keep (h : DfaAt w B v d) (hk : ∀ p : Addr, p.block < B → w'.cell? p = w.cell? p) : DfaAt w' B v d := by
  obtain ⟨h1, h2, ⟨rv, h3, h4, h5⟩, h6, h7, h8⟩ := h
  refine ⟨h1.keep hk, h2.keep hk, ⟨rv, h3.keep hk, h4, fun i r hr => ?_⟩, h6, h7, h8⟩
  obtain ⟨A, n, c, e, hr', hn⟩ := h5 i r hr
  exact ⟨A, n, c, e, hr'.keep hk, hn⟩
theorem DfaAt.below (h : DfaAt w B v d) (hb : Below B w w') : DfaAt w' B v d := h.keep fun _ hp => hb.cell hp
theorem DfaAt.drewN (h : DfaAt w B v d) (k : Nat) : DfaAt (w.drewN k) B v d := h.keep fun _ _ => rfl
theorem DfaAt.alloc (h : DfaAt w B v d) (hB : B ≤ w.heap.size) (o : Obj) : DfaAt (w.alloc o) B v d := h.keep fun p hp => World.cell?_alloc_lt w o p (by omega)
theorem DfaAt.setCell (h : DfaAt w B v d) {p : Addr} (hB : B ≤ p.block) (u : Value) : DfaAt (w.setCell p u) B v d :=
  h.keep fun q hq => World.cell?_setCell_other w p q u (fun e => by subst e; omega)
theorem DfaAt.more (h : DfaAt w B v d) (hB : B ≤ B') : DfaAt w B' v d := by
  obtain ⟨h1, h2, ⟨rv, h3, h4, h5⟩, h6, h7, h8⟩ := h
  refine ⟨h1.more hB, h2.more hB, ⟨rv, h3.more hB, h4, fun i r hr => ?_⟩, h6, h7, h8⟩
  obtain ⟨A, n, c, e, hr', hn⟩ := h5 i r hr
  exact ⟨A, n, c, e, hr'.more hB, hn⟩
theorem DfaAt.len_next (h : DfaAt w B v d) : d.next.length = v.nn := by
  obtain ⟨rv, h3, h4, _⟩ := h.rows
  have := h3.1
  omega
/-- Row i of Next. -/
theorem DfaAt.row_at (h : DfaAt w B v d) {i : Nat} (hi : i < v.nn) :
    ∃ b off A n c r, v.An = some ⟨b, off, none⟩ ∧ b < B ∧ d.next[i]? = some r ∧ w.cell? ⟨b, off + i, none⟩ = some (.slice A n c) ∧ Reads w B 1 A n (ints r) ∧ n ≤ maxLen := by
  obtain ⟨rv, h3, h4, h5⟩ := h.rows
  obtain ⟨b, off, e, hb, hc⟩ := h3.2 (by omega)
  have hl : i < d.next.length := by rw [h.len_next]; exact hi
  obtain ⟨A, n, c, hv, hr, hn⟩ := h5 i _ (List.getElem?_eq_getElem hl)
  exact ⟨b, off, A, n, c, _, e, hb, List.getElem?_eq_getElem hl, hc i _ hv, hr, hn⟩
end

theorem results_dfa {fn : Func} {p : Tmp} (h : fn.results = #[.cell p 27]) {tmps : Array Value} {b o : Nat} (hp : tmps.getD p undef = .pointer (some ⟨b, o, none⟩)) {w : World} {x y z : Option Addr} {n1 n2 n3 c1 c2 c3 : Nat}
    (h0 : w.cell? ⟨b, o, none⟩ = some (.slice x n1 c1)) (h1 : w.cell? ⟨b, o + 1, none⟩ = some (.slice y n2 c2)) (h2 : w.cell? ⟨b, o + 2, none⟩ = some (.slice z n3 c3)) :
    (results fn tmps).run Tryz.prog w = .ok (.agg #[.slice x n1 c1, .slice y n2 c2, .slice z n3 c3]) w := by
  rw [results_cell h tmps _ hp]
  simp [go_sem, h0, h1, h2]

/-- The automaton is valid (the reference's conditions). -/
structure Dfa.Ok (d : Dfa) (k : Nat) : Prop where
  cls : d.cls.length = 256
  cl : ∀ (i : Nat) (x : Int), d.cls[i]? = some x → 0 ≤ x ∧ x < k
  acc : d.acc.length = d.next.length
  pos : 0 < d.next.length
  row : ∀ (i : Nat) (r : List Int), d.next[i]? = some r → r.length = k ∧ ∀ (j : Nat) (x : Int), r[j]? = some x → -1 ≤ x ∧ x < d.next.length
  al : ∀ (i : Nat) (x : Int), d.acc[i]? = some x → -1 ≤ x

/-- The successor of a state for a byte; the number that a state accepts. -/
def Dfa.to (d : Dfa) (s : Nat) (b : UInt8) : Int := ((d.next[s]?.getD [])[(d.cls[b.toNat]?.getD 0).toNat]?).getD 0
def Dfa.ac (d : Dfa) (s : Nat) : Int := d.acc[s]?.getD 0
theorem Dfa.Ok.to_bd {d : Dfa} {k : Nat} (h : d.Ok k) {s : Nat} (hs : s < d.next.length) (b : UInt8) : -1 ≤ d.to s b ∧ d.to s b < d.next.length := by
  obtain ⟨hr, hx⟩ := h.row s _ (List.getElem?_eq_getElem hs)
  have hb : b.toNat < d.cls.length := by rw [h.cls]; exact b.toNat_lt
  have hc := h.cl b.toNat _ (List.getElem?_eq_getElem hb)
  have hj : (d.cls[b.toNat]).toNat < (d.next[s]).length := by rw [hr]; omega
  have := hx _ _ (List.getElem?_eq_getElem hj)
  simpa [Dfa.to, List.getElem?_eq_getElem hs, List.getElem?_eq_getElem hb, List.getElem?_eq_getElem hj] using this
theorem Dfa.Ok.ac_bd {d : Dfa} {k : Nat} (h : d.Ok k) {s : Nat} (hs : s < d.next.length) : -1 ≤ d.ac s := by
  have := h.al s _ (List.getElem?_eq_getElem (by rw [h.acc]; exact hs))
  simpa [Dfa.ac, List.getElem?_eq_getElem (show s < d.acc.length by rw [h.acc]; exact hs)] using this

/-- What a step reads. -/
theorem DfaAt.step_at {w : World} {B : Nat} {v : DfaV} {d : Dfa} {k : Nat} (h : DfaAt w B v d) (ho : d.Ok k) {s : Nat} (hs : s < d.next.length) (b : UInt8) :
    ∃ bc oc bn on br or_ n c cl, v.Ac = some ⟨bc, oc, none⟩ ∧ v.An = some ⟨bn, on, none⟩ ∧ bc < B ∧ bn < B ∧ br < B ∧ s < v.nn ∧ b.toNat < v.nc ∧ cl < n ∧ n ≤ maxLen ∧
      w.cell? ⟨bc, oc + b.toNat, none⟩ = some (.int .i64 (cl : Nat)) ∧ w.cell? ⟨bn, on + s, none⟩ = some (.slice (some ⟨br, or_, none⟩) n c) ∧ w.cell? ⟨br, or_ + cl, none⟩ = some (.int .i64 (d.to s b)) := by
  have hsn : s < v.nn := by rw [← h.len_next]; exact hs
  have hbn : b.toNat < v.nc := by rw [← h.cls.len_ints, ho.cls]; exact b.toNat_lt
  obtain ⟨bn, on, A, n, c, r, e1, l1, hr, c1, R, hn⟩ := h.row_at hsn
  obtain ⟨bc, oc, e2, l2, c2⟩ := h.cls.int_at hbn
  have hb : b.toNat < d.cls.length := by rw [ho.cls]; exact b.toNat_lt
  have hcl := ho.cl b.toNat _ (List.getElem?_eq_getElem hb)
  obtain ⟨cl, hcle⟩ := Int.eq_ofNat_of_zero_le hcl.1
  have hrk := (ho.row s r hr).1
  have hcn : cl < n := by rw [← R.len_ints, hrk]; omega
  obtain ⟨br, or_, e3, l3, c3⟩ := R.int_at hcn
  subst e3
  refine ⟨bc, oc, bn, on, br, or_, n, c, cl, e2, e1, l2, l1, l3, hsn, hbn, hcn, hn, ?_, c1, ?_⟩
  · rw [c2]; simp [List.getElem?_eq_getElem hb, hcle]
  · rw [c3]; simp [Dfa.to, hr, List.getElem?_eq_getElem hb, hcle]

end Go.Proofs.YtibdcnmaodmghaaGreatDoor
end

section
namespace Go.Proofs.YtibdcnmaodmghaaGreatDoor
open Go.RowKit
set_option maxRecDepth 20000


def byteAt (s : ByteArray) (k : Nat) : UInt8 := s.data[k]?.getD 0
theorem byteAt_eq (s : ByteArray) (k : Nat) (h : k < s.size) : byteAt s k = s[k] := by
  have h' : k < s.data.size := h
  simp [byteAt, Array.getElem?_eq_getElem h']
  rfl

/-- From state st on, 'look' bytes behind offset i: the kind, the length and the lookahead (m: how many bytes are left). -/
def scan (d : Dfa) (s : ByteArray) (i : Nat) : Nat → Nat → Nat → Int → Nat → Int × Nat × Nat
  | 0, _, look, kind, size => (kind, size, look + 1)
  | m + 1, st, look, kind, size =>
    if d.to st (byteAt s (i + look)) < 0 then (kind, size, look + 1)
    else if 0 ≤ d.ac (d.to st (byteAt s (i + look))).toNat then scan d s i m (d.to st (byteAt s (i + look))).toNat (look + 1) (d.ac (d.to st (byteAt s (i + look))).toNat) (look + 1)
    else scan d s i m (d.to st (byteAt s (i + look))).toNat (look + 1) kind size
def scan0 (d : Dfa) (s : ByteArray) (i : Nat) : Int × Nat × Nat := scan d s i (s.size - i) 0 0 (-1) 1
def tokAt (d : Dfa) (s : ByteArray) (i : Nat) : Tok := ⟨(scan0 d s i).1, i, s.extract i (i + (scan0 d s i).2.1), (scan0 d s i).2.2⟩

theorem scan_end (d : Dfa) (s : ByteArray) (i st look : Nat) (kind : Int) (size m : Nat) (h : m = 0) : scan d s i m st look kind size = (kind, size, look + 1) := by subst h; rfl
theorem scan_stop (d : Dfa) (s : ByteArray) (i st look : Nat) (kind : Int) (size m : Nat) (hm : 0 < m) (h : d.to st (byteAt s (i + look)) < 0) : scan d s i m st look kind size = (kind, size, look + 1) := by
  obtain ⟨m, rfl⟩ : ∃ k, m = k + 1 := ⟨m - 1, by omega⟩
  simp [scan, h]
theorem scan_acc (d : Dfa) (s : ByteArray) (i st look : Nat) (kind : Int) (size m m' x : Nat) (hm : m = m' + 1) (h : d.to st (byteAt s (i + look)) = x) (ha : 0 ≤ d.ac x) :
    scan d s i m st look kind size = scan d s i m' x (look + 1) (d.ac x) (look + 1) := by
  subst hm
  simp only [scan, h]
  rw [if_neg (by omega), if_pos (by simpa using ha)]
  simp
theorem scan_go (d : Dfa) (s : ByteArray) (i st look : Nat) (kind : Int) (size m m' x : Nat) (hm : m = m' + 1) (h : d.to st (byteAt s (i + look)) = x) (ha : d.ac x < 0) :
    scan d s i m st look kind size = scan d s i m' x (look + 1) kind size := by
  subst hm
  simp only [scan, h]
  rw [if_neg (by omega), if_neg (by simp; omega)]
  simp

theorem DfaAt.acc_at {w : World} {B : Nat} {v : DfaV} {d : Dfa} {k : Nat} (h : DfaAt w B v d) (ho : d.Ok k) {s : Nat} (hs : s < d.next.length) :
    ∃ b off, v.Aa = some ⟨b, off, none⟩ ∧ b < B ∧ s < v.na ∧ w.cell? ⟨b, off + s, none⟩ = some (.int .i64 (d.ac s)) := by
  have hsa : s < v.na := by rw [← h.acc.len_ints, ho.acc]; exact hs
  obtain ⟨b, off, e, hb, hc⟩ := h.acc.int_at hsa
  exact ⟨b, off, e, hb, hsa, hc⟩

end Go.Proofs.YtibdcnmaodmghaaGreatDoor
end

section
namespace Go.Proofs.YtibdcnmaodmghaaGreatDoor
open Go.RowKit
set_option maxRecDepth 20000


theorem scan_bd (d : Dfa) (s : ByteArray) (i : Nat) : ∀ (m st look : Nat) (kind : Int) (size : Nat), m = s.size - i - look → i + look ≤ s.size → 1 ≤ size → i + size ≤ s.size →
    1 ≤ (scan d s i m st look kind size).2.1 ∧ i + (scan d s i m st look kind size).2.1 ≤ s.size
  | 0, st, look, kind, size, _, _, h1, h2 => ⟨h1, h2⟩
  | m + 1, st, look, kind, size, hm, hl, h1, h2 => by
    simp only [scan]
    split
    · exact ⟨h1, h2⟩
    · split
      · exact scan_bd d s i m _ _ _ _ (by omega) (by omega) (by omega) (by omega)
      · exact scan_bd d s i m _ _ _ _ (by omega) (by omega) (by omega) (by omega)
theorem scan0_bd (d : Dfa) (s : ByteArray) (i : Nat) (hi : i < s.size) : 1 ≤ (scan0 d s i).2.1 ∧ i + (scan0 d s i).2.1 ≤ s.size :=
  scan_bd d s i _ 0 0 (-1) 1 (by omega) (by omega) (by omega) (by omega)
theorem tokAt_size (d : Dfa) (s : ByteArray) (i : Nat) (hi : i < s.size) : (tokAt d s i).text.size = (scan0 d s i).2.1 := by
  have := scan0_bd d s i hi
  simp only [tokAt, ByteArray.size_extract]
  omega
theorem tokAt_bd (d : Dfa) (s : ByteArray) (i : Nat) (hi : i < s.size) : 1 ≤ (tokAt d s i).text.size ∧ i + (tokAt d s i).text.size ≤ s.size := by
  rw [tokAt_size d s i hi]; exact scan0_bd d s i hi

def lexFrom (d : Dfa) (s : ByteArray) : Nat → Nat → List Tok
  | 0, _ => []
  | f + 1, i => if i < s.size then tokAt d s i :: lexFrom d s f (i + (tokAt d s i).text.size) else []
def lexL (d : Dfa) (s : ByteArray) : List Tok := lexFrom d s s.size 0
theorem lexFrom_fuel (d : Dfa) (s : ByteArray) : ∀ (f g i : Nat), s.size - i ≤ f → s.size - i ≤ g → lexFrom d s f i = lexFrom d s g i
  | 0, 0, _, _, _ => rfl
  | 0, g + 1, i, h, _ => by simp only [lexFrom]; rw [if_neg (by omega)]
  | f + 1, 0, i, _, h => by simp only [lexFrom]; rw [if_neg (by omega)]
  | f + 1, g + 1, i, h, h' => by
    simp only [lexFrom]
    split
    · rename_i hi
      have := tokAt_bd d s i hi
      rw [lexFrom_fuel d s f g _ (by omega) (by omega)]
    · rfl
theorem lexFrom_end (d : Dfa) (s : ByteArray) (f i : Nat) (h : s.size ≤ i) : lexFrom d s f i = [] := by
  cases f with
  | zero => rfl
  | succ f => simp only [lexFrom]; rw [if_neg (by omega)]
theorem lexFrom_step (d : Dfa) (s : ByteArray) (i : Nat) (h : i < s.size) : lexFrom d s (s.size - i) i = tokAt d s i :: lexFrom d s (s.size - (i + (tokAt d s i).text.size)) (i + (tokAt d s i).text.size) := by
  obtain ⟨f, hf⟩ : ∃ f, s.size - i = f + 1 := ⟨s.size - i - 1, by omega⟩
  rw [hf]
  simp only [lexFrom]
  rw [if_pos h]
  have := tokAt_bd d s i h
  rw [lexFrom_fuel d s f _ _ (by omega) (Nat.le_refl _)]

/-- What a function that returns a list of tokens in new memory leaves. -/
def RetToks (l : List Tok) (w : World) (e : Ending) (w' : World) : Prop :=
  ∃ A c, e = .returned (.slice A l.length c) ∧ l.length ≤ c ∧ c ≤ maxLen ∧ Reads w' w'.heap.size 4 A l.length (toks l) ∧ Below w.heap.size w w'

theorem Tryz.infoTok : (Tryz.prog.info? 110).map (fun i => (i.zero, i.size, i.bytes)) = some (some (.agg #[.int .i64 0, .int .i64 0, .string ⟨#[]⟩, .int .i64 0]), 4, 40) := by kernel_rfl

/-- A token appended: what becomes of what the loop holds. -/
theorem lex_push {w wr w1 : World} {base : Nat} {v : Value} {acc : List Tok} {t : Tok} {v' : Value} (hb : Below base w wr) (hbase : base ≤ w.heap.size)
    (h : w1.ownsRow base 110 4 v' (acc.length + 1) (toks acc ++ t.cells)) (hg : wr.grownBy w1 v.ownBlock) (hown : wr.ownsRow base 110 4 v acc.length (toks acc)) :
    w1.ownsRow base 110 4 v' (acc ++ [t]).length (toks (acc ++ [t])) ∧ Below base w w1 := by
  refine ⟨?_, hb.grown hg (by have := hb.size; omega) (fun k hk => (hown.lt k hk).1)⟩
  rw [toks_append, List.length_append]
  simpa [toks] using h

end Go.Proofs.YtibdcnmaodmghaaGreatDoor
end

section
namespace Go.Proofs.YtibdcnmaodmghaaGreatDoor
open Go.RowKit
set_option maxRecDepth 20000

set_option maxHeartbeats 1000000 in
theorem step_any (Ac An Aa : Option Addr) (nc cc nn cn na ca : Nat) (d : Dfa) (k B g st : Nat) (b : UInt8) (w : World) (hd : DfaAt w B ⟨Ac, nc, cc, An, nn, cn, Aa, na, ca⟩ d) (ho : d.Ok k) (hst : st < d.next.length)
    (hb : Blk w g 206 #[.slice Ac nc cc, .slice An nn cn, .slice Aa na ca, .int .i64 st]) :
    Calls Tryz.prog 81 #[.pointer (some ⟨g, 0, none⟩), .int .u8 b.toNat] w
      fun e w' => e = .returned (.bool (decide (0 ≤ d.to st b))) ∧ ∃ nd, w' = (w.drewN nd).setCell ⟨g, 3, none⟩ (.int .i64 (d.to st b)) := by
  obtain ⟨bc, oc, bn, on, br, or_, n, c, cl, q2, q1, l2, l1, l3, hsn, hbn', hcn, hn, c2, c1, c3⟩ := hd.step_at ho hst b
  simp only at q1 q2 hsn hbn'
  subst q1; subst q2
  have hbc := hd.bc
  have hbn := hd.bn
  simp only [maxLen] at *
  have k0 := hb.cell 0
  have k1 := hb.cell 1
  have k3 := hb.cell 3
  have kf := hb.frozen 3
  simp at k0 k1 k3
  clear hd
  go_enter Tryz.func81, Tryz.ntmps81
  go_wp2_with fail
  go_still_tail 24, (by kernel_rfl)
  change wpList _ _ _ _ _ w.drew
  go_wp2_with fail
  go_ret
  exact ⟨rfl, 1, rfl⟩

/-- The same, said of blocks. -/
theorem step_blk (Ac An Aa : Option Addr) (nc cc nn cn na ca : Nat) (d : Dfa) (k B g st : Nat) (b : UInt8) (w : World) (hd : DfaAt w B ⟨Ac, nc, cc, An, nn, cn, Aa, na, ca⟩ d) (ho : d.Ok k) (hst : st < d.next.length)
    (hb : Blk w g 206 #[.slice Ac nc cc, .slice An nn cn, .slice Aa na ca, .int .i64 st]) :
    Calls Tryz.prog 81 #[.pointer (some ⟨g, 0, none⟩), .int .u8 b.toNat] w
      fun e w' => e = .returned (.bool (decide (0 ≤ d.to st b))) ∧ Blk w' g 206 #[.slice Ac nc cc, .slice An nn cn, .slice Aa na ca, .int .i64 (d.to st b)] ∧ w.grownBy w' (some g) := by
  refine (step_any Ac An Aa nc cc nn cn na ca d k B g st b w hd ho hst hb).mono ?_
  rintro e w' ⟨rfl, nd, rfl⟩
  refine ⟨rfl, ?_, ?_⟩
  · have := (hb.drewN nd).set_ 3 (.int .i64 (d.to st b))
    simpa using this
  · exact ⟨rfl, rfl, rfl, by simp, fun j hj hne => Below.heap_setCell _ _ _ _ (fun e => hne (by simp [e]))⟩

set_option maxHeartbeats 1000000 in
theorem accepted_any (Ac An Aa : Option Addr) (nc cc nn cn na ca : Nat) (d : Dfa) (k B g st : Nat) (w : World) (hd : DfaAt w B ⟨Ac, nc, cc, An, nn, cn, Aa, na, ca⟩ d) (ho : d.Ok k) (hst : st < d.next.length)
    (hb : Blk w g 206 #[.slice Ac nc cc, .slice An nn cn, .slice Aa na ca, .int .i64 st]) :
    Calls Tryz.prog 82 #[.pointer (some ⟨g, 0, none⟩)] w
      fun e w' => e = .returned (.int .i64 (d.ac st)) ∧ ∃ nd, w' = w.drewN nd := by
  obtain ⟨ba, oa, q3, l4, hxn, c4⟩ := hd.acc_at ho hst
  simp only at q3 hxn
  subst q3
  have hba := hd.ba
  simp only [maxLen] at *
  have k2 := hb.cell 2
  have k3 := hb.cell 3
  simp at k2 k3
  clear hd
  go_enter Tryz.func82, Tryz.ntmps82
  go_wp2_with fail
  go_quiet (fail)
  go_wp2_with fail
  go_ret
  exact ⟨rfl, drew1 _ _⟩

set_option maxHeartbeats 1000000 in
theorem one_any (v : DfaV) (d : Dfa) (k B i : Nat) (s : ByteArray) (w : World) (hd : DfaAt w B v d) (hB : B ≤ w.heap.size) (ho : d.Ok k) (hi : i < s.size) (hs : s.size ≤ 9223372036854775000) :
    Calls Tryz.prog 34 #[.agg #[.slice v.Ac v.nc v.cc, .slice v.An v.nn v.cn, .slice v.Aa v.na v.ca], .string s, .int .i64 i] w
      fun e w' => e = .returned (.agg #[.int .i64 (tokAt d s i).kind, .int .i64 (tokAt d s i).pos, .string (tokAt d s i).text, .int .i64 (tokAt d s i).look]) ∧ Below w.heap.size w w' := by
  have hpos := ho.pos
  have HP : Hid (scan d s i (s.size - i - 0) 0 0 (-1) 1 = scan0 d s i) := rfl
  have hbc := hd.bc
  have hbn := hd.bn
  have hba := hd.ba
  have hd0 := hd.more hB
  have HD := Lib.hid hd0
  obtain ⟨Ac, nc, cc, An, nn, cn, Aa, na, ca⟩ := v
  simp only [maxLen] at *
  clear hd hd0
  go_enter Tryz.func34, Tryz.ntmps34
  go_wp2_with fail
  go_loopw [10] (fun a wr => ∃ (st look size : Nat) (kind : Int), st < d.next.length ∧ i + look ≤ s.size ∧ 1 ≤ size ∧ i + size ≤ s.size ∧ a = .int .i64 (i + look : Nat) ∧
      Blk wr (w.heap.size + 1) 110 #[.int .i64 0, .int .i64 0, .string ⟨#[]⟩, .int .i64 0] ∧
      Blk wr (w.heap.size + 1 + 1) 110 #[.int .i64 kind, .int .i64 i, .string (s.extract i (i + size)), .int .i64 look] ∧
      Blk wr (w.heap.size + 1 + 1 + 1) 206 #[.slice Ac nc cc, .slice An nn cn, .slice Aa na ca, .int .i64 st] ∧
      Below w.heap.size w wr ∧ Hid (DfaAt wr w.heap.size ⟨Ac, nc, cc, An, nn, cn, Aa, na, ca⟩ d) ∧
      Hid (scan d s i (s.size - i - look) st look kind size = scan0 d s i)) (fun a _ => s.size - (intOf a).toNat)
  case atStart =>
    refine ⟨0, 0, 1, -1, hpos, by omega, by omega, by omega, rfl, ?_, ?_, ?_, ?_, ?_, HP⟩
    · exact (((Blk.new' (w.alloc _) _ _ (by simp)).alloc _).alloc _)
    · exact ((Blk.new' ((w.alloc _).alloc _) _ _ (by simp)).alloc _)
    · exact (Blk.new' (((w.alloc _).alloc _).alloc _) _ _ (by simp))
    · exact ((((Below.refl _ _).alloc (Nat.le_refl _) _).alloc (by simp) _).alloc (by simp; omega) _).alloc (by simp; omega) _
    · exact (((HD.out.alloc (Nat.le_refl _) _).alloc (by simp) _).alloc (by simp; omega) _).alloc (by simp; omega) _
  case round =>
    obtain ⟨st, look, size, kind, hst, hlook, hsz1, hsz, rfl, B1, B2, B3, hb, HDr, HS⟩ := hrel
    clear HD HP
    have t0 := B2.cell 0
    have t1 := B2.cell 1
    have t2 := B2.cell 2
    have t3 := B2.cell 3
    have tf := B2.frozen 3
    have r0 := B1.cell 0
    have r1 := B1.cell 1
    have r2 := B1.cell 2
    have r3 := B1.cell 3
    have f0 := B1.frozen 0
    have f1 := B1.frozen 1
    have f2 := B1.frozen 2
    have f3 := B1.frozen 3
    simp at t0 t1 t2 t3 r0 r1 r2 r3
    by_cases he : i + look = s.size
    · have he' : ((i : Int) + (look : Int) == (s.size : Int)) = true := by simp; omega
      have e1 := HS.out.symm.trans (scan_end d s i st look kind size _ (by omega))
      have e2 : tokAt d s i = ⟨kind, i, s.extract i (i + size), look + 1⟩ := by simp [tokAt, e1]
      have E2 := Lib.hid e2
      have HE := Lib.hid he
      clear he e1 e2
      go_wp2_with fail
      have b2 := (B1.far (p := ⟨w.heap.size + 1 + 1, 3, none⟩) (by simp) (.int .i64 ((look : Int) + 1))).set4 (.int .i64 kind) (.int .i64 i) (.string (s.extract i (i + size))) (.int .i64 ((look : Int) + 1))
      refine bodyPost_ret (results_tok rfl rfl (b2.cell 0) (b2.cell 1) (b2.cell 2) (b2.cell 3)) rfl ⟨by rw [E2.out], ?_⟩
      exact ((((hb.setCell (by simp; omega) _).setCell (by simp) _).setCell (by simp) _).setCell (by simp) _).setCell (by simp) _
    · have hlt : i + look < s.size := by omega
      have he' : ((i : Int) + (look : Int) == (s.size : Int)) = false := by simp; omega
      have HL := Lib.hid hlt
      have HE := Lib.hid he
      clear he
      have w2 : (0 : Int) ≤ (i : Int) + look := by omega
      have w3 : ((i : Int) + look).toNat = i + look := by omega
      have w4 : (i : Int) + (look : Int) < (s.size : Int) := by omega
      have hbd := ho.to_bd hst (s[i + look]'hlt)
      have hbe : d.to st (byteAt s (i + look)) = d.to st (s[i + look]'hlt) := by rw [byteAt_eq s _ hlt]
      have HBE := Lib.hid hbe
      clear hbe
      have B3' := B3.far (p := ⟨w.heap.size + 1 + 1, 3, none⟩) (by simp) (.int .i64 ((look : Int) + 1))
      have B2' := B2.set_ 3 (.int .i64 ((look : Int) + 1))
      have B1' := B1.far (p := ⟨w.heap.size + 1 + 1, 3, none⟩) (by simp) (.int .i64 ((look : Int) + 1))
      have hb' := hb.setCell (p := ⟨w.heap.size + 1 + 1, 3, none⟩) (by simp; omega) (.int .i64 ((look : Int) + 1))
      have HD' := HDr.out.keep (w' := wr.setCell ⟨w.heap.size + 1 + 1, 3, none⟩ (.int .i64 ((look : Int) + 1))) (fun p hp => World.cell?_setCell_other _ _ _ _ (fun e => by subst e; simp at hp; omega))
      simp at B2'
      by_cases hx : d.to st (s[i + look]'hlt) < 0
      · have hdec : decide (0 ≤ d.to st (s[i + look]'hlt)) = false := by simp; omega
        have e1 := HS.out.symm.trans (scan_stop d s i st look kind size _ (by omega) (by rw [HBE.out]; exact hx))
        have e2 : tokAt d s i = ⟨kind, i, s.extract i (i + size), look + 1⟩ := by simp [tokAt, e1]
        have E2 := Lib.hid e2
        clear e1 e2
        go_wp2_with (go_at_call 81; refine (step_blk Ac An Aa nc cc nn cn na ca d k w.heap.size _ st _ _ HD' ho hst B3').mono ?_; rintro e w1 ⟨rfl, B3n, hg⟩; have C1 := B1'.grown hg (by simp); have C2 := B2'.grown hg (by simp); have c0 := C2.cell 0; have c1 := C2.cell 1; have c2 := C2.cell 2; have c3 := C2.cell 3; have g0 := C2.frozen 0; have g2 := C2.frozen 2; have d0 := C1.cell 0; have d1 := C1.cell 1; have d2 := C1.cell 2; have d3 := C1.cell 3; have h0 := C1.frozen 0; have h1 := C1.frozen 1; have h2 := C1.frozen 2; have h3 := C1.frozen 3; simp at c0 c1 c2 c3 d0 d1 d2 d3; have hb2 := hb'.grown hg (by have := hb'.size; omega) (by simp; omega); have HD2 := HD'.keep (w' := w1) (fun p hp => World.cell?_of_block (hg.block p.block (by have := hb'.size; omega) (by simp; omega))))
        have b2 := C1.set4 (.int .i64 kind) (.int .i64 i) (.string (s.extract i (i + size))) (.int .i64 ((look : Int) + 1))
        refine bodyPost_ret (results_tok rfl rfl (b2.cell 0) (b2.cell 1) (b2.cell 2) (b2.cell 3)) rfl ⟨by rw [E2.out], ?_⟩
        exact (((hb2.setCell (by simp) _).setCell (by simp) _).setCell (by simp) _).setCell (by simp) _
      · obtain ⟨x, hxe⟩ := Int.eq_ofNat_of_zero_le (Int.not_lt.1 hx)
        have hdec : decide (0 ≤ d.to st (s[i + look]'hlt)) = true := by simp; omega
        have hxl : x < d.next.length := by omega
        have HX := Lib.hid hxe
        clear hxe
        by_cases ha : 0 ≤ d.ac x
        · go_wp2_with (first | (go_at_call 81; refine (step_blk Ac An Aa nc cc nn cn na ca d k w.heap.size _ st _ _ HD' ho hst B3').mono ?_; rintro e w1 ⟨rfl, B3n, hg⟩; have C1 := B1'.grown hg (by simp); have C2 := B2'.grown hg (by simp); have c0 := C2.cell 0; have c1 := C2.cell 1; have c2 := C2.cell 2; have c3 := C2.cell 3; have g0 := C2.frozen 0; have g2 := C2.frozen 2; have d0 := C1.cell 0; have d1 := C1.cell 1; have d2 := C1.cell 2; have d3 := C1.cell 3; have h0 := C1.frozen 0; have h1 := C1.frozen 1; have h2 := C1.frozen 2; have h3 := C1.frozen 3; simp at c0 c1 c2 c3 d0 d1 d2 d3; have hb2 := hb'.grown hg (by have := hb'.size; omega) (by simp; omega); have HD2 := HD'.keep (w' := w1) (fun p hp => World.cell?_of_block (hg.block p.block (by have := hb'.size; omega) (by simp; omega)))) | (go_at_call 82; rw [HX.out] at B3n; refine (accepted_any Ac An Aa nc cc nn cn na ca d k w.heap.size _ x _ HD2 ho hxl B3n).mono ?_; rintro e w2 ⟨rfl, nd, rfl⟩))
          go_region
          all_goals go_wp2_with fail
          all_goals go_roundw
          case rel =>
            refine ⟨x, look + 1, look + 1, d.ac x, hxl, by omega, by omega, by omega, by go_num, ((C1.drewN _).far (by simp) _).far (by simp) _, ?_, ((B3n.drewN _).far (by simp) _).far (by simp) _, ((below_drewN hb2 _).setCell (by simp; omega) _).setCell (by simp; omega) _,
              ((HD2.drewN _).setCell (by simp; omega) _).setCell (by simp; omega) _, (scan_acc d s i st look kind size (s.size - i - look) (s.size - i - (look + 1)) x (by omega) (by rw [HBE.out]; exact HX.out) ha).symm.trans HS.out⟩
            have := ((C2.drewN (nd + 1)).set_ 0 (.int .i64 (d.ac x))).set_ 2 (.string (s.extract i (i + look + 1)))
            simpa [Nat.add_assoc] using this
          case measure => simp [intOf]; omega
        · go_wp2_with (first | (go_at_call 81; refine (step_blk Ac An Aa nc cc nn cn na ca d k w.heap.size _ st _ _ HD' ho hst B3').mono ?_; rintro e w1 ⟨rfl, B3n, hg⟩; have C1 := B1'.grown hg (by simp); have C2 := B2'.grown hg (by simp); have c0 := C2.cell 0; have c1 := C2.cell 1; have c2 := C2.cell 2; have c3 := C2.cell 3; have g0 := C2.frozen 0; have g2 := C2.frozen 2; have d0 := C1.cell 0; have d1 := C1.cell 1; have d2 := C1.cell 2; have d3 := C1.cell 3; have h0 := C1.frozen 0; have h1 := C1.frozen 1; have h2 := C1.frozen 2; have h3 := C1.frozen 3; simp at c0 c1 c2 c3 d0 d1 d2 d3; have hb2 := hb'.grown hg (by have := hb'.size; omega) (by simp; omega); have HD2 := HD'.keep (w' := w1) (fun p hp => World.cell?_of_block (hg.block p.block (by have := hb'.size; omega) (by simp; omega)))) | (go_at_call 82; rw [HX.out] at B3n; refine (accepted_any Ac An Aa nc cc nn cn na ca d k w.heap.size _ x _ HD2 ho hxl B3n).mono ?_; rintro e w2 ⟨rfl, nd, rfl⟩))
          go_roundw
          case rel => exact ⟨x, look + 1, size, kind, hxl, by omega, by omega, by omega, by go_num, C1.drewN _, C2.drewN _, B3n.drewN _, below_drewN hb2 _, HD2.drewN _, (scan_go d s i st look kind size (s.size - i - look) (s.size - i - (look + 1)) x (by omega) (by rw [HBE.out]; exact HX.out) (by omega)).symm.trans HS.out⟩
          case measure => simp [intOf]; omega
end Go.Proofs.YtibdcnmaodmghaaGreatDoor
end

section
namespace Go.Proofs.YtibdcnmaodmghaaGreatDoor
open Go.RowKit
set_option maxRecDepth 20000

/-- The tokens, in a row of the call's own. -/
def RetOwnToks (l : List Tok) (w : World) (e : Ending) (w' : World) : Prop :=
  ∃ A c, e = .returned (.slice A l.length c) ∧ w'.ownsRow (w.heap.size + 1) 110 4 (.slice A l.length c) l.length (toks l) ∧ Below w.heap.size w w'

set_option maxHeartbeats 1000000 in
theorem lexOwn_any (v : DfaV) (d : Dfa) (k B : Nat) (s : ByteArray) (w : World) (hd : DfaAt w B v d) (hB : B ≤ w.heap.size) (ho : d.Ok k) (hs : s.size ≤ 1048576) :
    Calls Tryz.prog 11 #[.agg #[.slice v.Ac v.nc v.cc, .slice v.An v.nn v.cn, .slice v.Aa v.na v.ca], .string s] w (RetOwnToks (lexL d s) w) := by
  obtain ⟨i0, hi0, hz0, hz1, hz2⟩ := info_parts Tryz.infoTok
  have HD := Lib.hid (hd.more hB)
  have HP : Hid ([] ++ lexFrom d s (s.size - 0) 0 = lexL d s) := rfl
  clear hd
  obtain ⟨Ac, nc, cc, An, nn, cn, Aa, na, ca⟩ := v
  simp only at *
  go_enter Tryz.func11, Tryz.ntmps11
  go_wp2_with fail
  go_loopw [5, 6] (fun v a wr => ∃ (i : Nat) (acc : List Tok), i ≤ s.size ∧ acc.length ≤ i ∧ a = .int .i64 i ∧ wr.ownsRow (w.heap.size + 1) 110 4 v acc.length (toks acc) ∧
      Blk wr w.heap.size 27 #[.slice Ac nc cc, .slice An nn cn, .slice Aa na ca] ∧ Below (w.heap.size + 1) (w.alloc (.cells #[.slice Ac nc cc, .slice An nn cn, .slice Aa na ca] 27)) wr ∧
      Hid (acc ++ lexFrom d s (s.size - i) i = lexL d s)) (fun _ a _ => s.size - (intOf a).toNat)
  case atStart => exact ⟨0, [], by omega, by simp, rfl, World.ownsRow_nil _ _ _ _, Blk.new' _ _ _ rfl, Below.refl _ _, HP⟩
  case round =>
    obtain ⟨i, acc, hi, hacc, rfl, hown, B0, hb, HL⟩ := hrel
    have b0 := B0.cell 0
    have b1 := B0.cell 1
    have b2 := B0.cell 2
    simp at b0 b1 b2
    clear HP
    have hsz := hb.size
    simp only [World.size_alloc] at hsz
    by_cases hlt : i < s.size
    · have hD : DfaAt wr w.heap.size ⟨Ac, nc, cc, An, nn, cn, Aa, na, ca⟩ d := (HD.out.alloc (Nat.le_refl _) _).below (hb.mono (by omega))
      have HDr := Lib.hid hD
      clear hD HD
      have hbd := tokAt_bd d s i hlt
      have HS := Lib.hid (lexFrom_step d s i hlt)
      go_wp2_with (first
        | (go_at_call 34; refine (one_any ⟨Ac, nc, cc, An, nn, cn, Aa, na, ca⟩ d k w.heap.size i s wr HDr.out (by omega) ho hlt (by omega)).mono ?_; rintro e w1 ⟨rfl, hb1⟩; have hown1 := own_below hown hb1)
        | (at_builtin; go_must (refine wpList_append_own _ rfl _ _ 41 rfl (w.heap.size + 1) 110 i0 (.agg #[.int .i64 0, .int .i64 0, .string ⟨#[]⟩, .int .i64 0]) 4 40 Tryz.underlying41 hi0 hz0 hz1 hz2 rfl (by decide) _ acc.length (toks acc) rfl ?hown ⟨w1.heap.size + 1, 0, none⟩ 1 1 (tokAt d s i).cells rfl rfl ?c1 ?c2 ?c3 ?c4 ?c5 ?_)))
      case hown => exact (hown1.alloc _).alloc _
      case c1 =>
        intro j u hj
        rw [Addr.add_lit, (Blk.new' _ _ _ (by simp)).cell]
        simpa [Tok.cells] using hj
      case c2 =>
        intro u hu
        simp [Tok.cells] at hu
        rcases hu with rfl | rfl | rfl | rfl <;> rfl
      case c3 => unfold maxLen; omega
      case c4 => omega
      case c5 => have := hb1.size; simp; omega
      · intro v' w2 hown' hgrow _
        have hs1 := hb1.size
        have hlt0 := hown.lt
        have T0 : Blk w2 w1.heap.size 110 (tokAt d s i).cells.toArray := ((Blk.new' _ _ _ rfl).alloc _).grown hgrow (fun e => by have := hlt0 _ e.symm; omega)
        have t2 := T0.cell 2
        simp [Tok.cells] at t2
        have B2 : Blk w2 w.heap.size 27 #[.slice Ac nc cc, .slice An nn cn, .slice Aa na ca] := (((B0.below hb1 (by omega)).alloc _).alloc _).grown hgrow (fun e => by have := hlt0 _ e.symm; omega)
        have R := lex_push (t := tokAt d s i) (((hb.trans (hb1.mono hsz)).alloc (by omega) _).alloc (by simp; omega) _) (by simp) hown' hgrow ((hown1.alloc _).alloc _)
        clear hown' hgrow hown1 hown T0
        go_wp2_with fail
        go_roundw
        case rel =>
          refine ⟨i + (tokAt d s i).text.size, acc ++ [tokAt d s i], by omega, by simp; omega, by go_num, R.1, B2, R.2, ?_⟩
          have := HL.out
          rw [HS.out] at this
          have h3 : (acc ++ [tokAt d s i]) ++ lexFrom d s (s.size - (i + (tokAt d s i).text.size)) (i + (tokAt d s i).text.size) = lexL d s := by simpa using this
          exact h3
        case measure => simp [intOf]; omega
    · have hil : i = s.size := by omega
      have e1 := HL.out
      rw [lexFrom_end d s _ i (by omega), List.append_nil] at e1
      subst e1
      obtain ⟨A, c, rfl, _, _⟩ := own_form hown
      go_wp2_with fail
      go_ret
      exact ⟨A, c, rfl, hown, ((Below.refl _ _).alloc (Nat.le_refl _) _).trans (hb.mono (by omega))⟩
theorem lex_any (v : DfaV) (d : Dfa) (k B : Nat) (s : ByteArray) (w : World) (hd : DfaAt w B v d) (hB : B ≤ w.heap.size) (ho : d.Ok k) (hs : s.size ≤ 1048576) :
    Calls Tryz.prog 11 #[.agg #[.slice v.Ac v.nc v.cc, .slice v.An v.nn v.cn, .slice v.Aa v.na v.ca], .string s] w (RetToks (lexL d s) w) := by
  refine (lexOwn_any v d k B s w hd hB ho hs).mono ?_
  rintro e w' ⟨A, c, rfl, hown, hb⟩
  obtain ⟨A', c', he, hc1, hc2⟩ := own_form hown
  injection he with e1 e2 e3
  subst e1; subst e3
  exact ⟨A, c, rfl, hc1, hc2, Reads.of_own hown, hb⟩
end Go.Proofs.YtibdcnmaodmghaaGreatDoor
end
