/- The base; rules, arcs, items, cells; grids of cells; At. -/
import Derived.Test.YthakcefgbggkcaaDoorRows
import Derived.WalkKit
import Derived.WalkSpells
import Derived.WalkLawsBesides
import Derived.Deep.QuietTactic
import Derived.BigQuiet
import Derived.Lib.Hide
import Derived.Deep.Draws
import Derived.Deep.AppendLies
import Derived.Deep.RegionHeld3
import Derived.Deep.DeepFit
import Derived.ProofKit
import Derived.OpenShut
import Derived.Deep.Slices
import Derived.Deep.Fields
import Derived.Lib.SmallJoins
import Derived.ChangeSame
import Derived.Lib.MinMax
import Derived.Lib.LaidU8
import Derived.Lay
import Derived.Deep.DeepCutAuto
namespace Go.Proofs.YthakcefgbggkcaaDoor
open Go.RowKit

theorem block_of_add (a : Addr) (n : Nat) : (a.add n).block = a.block := by unfold Addr.add; split <;> rfl

/-- The slice with address A and n elements of 'size' cells holds the cells xs; it lies below block B. -/
def Reads (w : World) (B size : Nat) (A : Option Addr) (n : Nat) (xs : List Value) : Prop :=
  xs.length = n * size ∧ (0 < n → ∃ b off, A = some ⟨b, off, none⟩ ∧ b < B ∧ ∀ j u, xs[j]? = some u → w.cell? ⟨b, off + j, none⟩ = some u)

section
variable {w w' : World} {B B' size n : Nat} {A : Option Addr} {xs : List Value}
theorem Reads.nil_ : Reads w B size A 0 [] := ⟨by simp, fun h => absurd h (by omega)⟩
theorem Reads.keep (h : Reads w B size A n xs) (hk : ∀ p : Addr, p.block < B → w'.cell? p = w.cell? p) : Reads w' B size A n xs :=
  ⟨h.1, fun hn => by
    obtain ⟨b, off, e, hb, hc⟩ := h.2 hn
    exact ⟨b, off, e, hb, fun j u hu => (hk _ hb).trans (hc j u hu)⟩⟩
theorem Reads.more (h : Reads w B size A n xs) (hB : B ≤ B') : Reads w B' size A n xs :=
  ⟨h.1, fun hn => by
    obtain ⟨b, off, e, hb, hc⟩ := h.2 hn
    exact ⟨b, off, e, by omega, hc⟩⟩
theorem Reads.below (h : Reads w B size A n xs) (hb : Below B w w') : Reads w' B size A n xs := h.keep fun _ hp => hb.cell hp
theorem Reads.drew (h : Reads w B size A n xs) : Reads w.drew B size A n xs := h
theorem Reads.drewN (h : Reads w B size A n xs) (k : Nat) : Reads (w.drewN k) B size A n xs := h
theorem Reads.alloc (h : Reads w B size A n xs) (hB : B ≤ w.heap.size) (o : Obj) : Reads (w.alloc o) B size A n xs := h.keep fun p hp => World.cell?_alloc_lt w o p (by omega)
theorem Reads.setCell (h : Reads w B size A n xs) {p : Addr} (hB : B ≤ p.block) (u : Value) : Reads (w.setCell p u) B size A n xs :=
  h.keep fun q hq => World.cell?_setCell_other w p q u (fun e => by subst e; omega)
theorem Reads.grown (h : Reads w B size A n xs) {row : Option Nat} (hg : w.grownBy w' row) (hB : B ≤ w.heap.size) (hr : ∀ g, row = some g → B ≤ g) : Reads w' B size A n xs :=
  h.keep fun p hp => World.cell?_of_block (hg.block p.block (by omega) (fun e => by have := hr _ e.symm; omega))
/-- Below the heap's size it is in any case. -/
theorem Reads.top (h : Reads w B size A n xs) : Reads w w.heap.size size A n xs ∨ xs = [] := by
  rcases Nat.eq_zero_or_pos n with h0 | h0
  · right; subst h0; exact List.eq_nil_of_length_eq_zero (by simpa using h.1)
  · rcases Nat.eq_zero_or_pos size with s0 | s0
    · right; subst s0; exact List.eq_nil_of_length_eq_zero (by simpa using h.1)
    · left
      refine ⟨h.1, fun hn => ?_⟩
      obtain ⟨b, off, e, hb, hc⟩ := h.2 hn
      refine ⟨b, off, e, ?_, hc⟩
      have hl : 0 < xs.length := by rw [h.1]; exact Nat.mul_pos h0 s0
      have := hc 0 xs[0] (List.getElem?_eq_getElem hl)
      exact World.block_lt_of_cell? w _ this
theorem Reads.of_own {base : Nat} {e : TypeId} {c : Nat} (h : w.ownsRow base e size (.slice A n c) n xs) : Reads w w.heap.size size A n xs := by
  refine ⟨h.1, fun hn => ?_⟩
  obtain ⟨g, cap, hv, _, hlt⟩ := h.form hn
  have hA : A = some ⟨g, 0, none⟩ := by injection hv
  subst hA
  refine ⟨g, 0, rfl, hlt, fun j u hu => ?_⟩
  have := h.cells (g := g) rfl j u hu
  rw [Addr.add_lit] at this
  exact this
/-- The form of an owned slice's value. -/
theorem own_form {base : Nat} {e : TypeId} {v : Value} (h : w.ownsRow base e size v n xs) : ∃ A c, v = .slice A n c ∧ n ≤ c ∧ c ≤ maxLen := by
  rcases h.2 with ⟨rfl, rfl⟩ | ⟨g, cap, cur, rfl, _, _, h1, h2, _⟩
  · exact ⟨none, 0, rfl, Nat.le_refl _, by unfold maxLen; omega⟩
  · exact ⟨_, _, rfl, h1, h2⟩
end

/-- Cells below B, and marks, read as before. -/
theorem bcell {w w1 : World} {B : Nat} (hb : Below B w w1) : (∀ b o, b < B → w1.cell? ⟨b, o, none⟩ = w.cell? ⟨b, o, none⟩) ∧ (∀ b o, b < B → w1.frozen? ⟨b, o, none⟩ = w.frozen? ⟨b, o, none⟩) :=
  ⟨fun b o h => hb.cell (p := ⟨b, o, none⟩) h, fun b o h => hb.frozen (p := ⟨b, o, none⟩) h⟩
theorem below_drewN {B : Nat} {a w : World} (h : Below B a w) (n : Nat) : Below B a (w.drewN n) := ⟨h.os, h.tape, h.output, h.size, h.block⟩
theorem below_from_drewN {B : Nat} {w w1 : World} {n : Nat} (h : Below B (w.drewN n) w1) : Below B w w1 := ⟨h.os, h.tape, h.output, h.size, h.block⟩
theorem cell_alloc {w : World} {a : Addr} {v : Value} (h : w.cell? a = some v) (o : Obj) : (w.alloc o).cell? a = some v := (World.cell?_alloc_lt w o a (World.block_lt_of_cell? w a h)).trans h
theorem ret_bool {a b : Bool} (h : a = b) : Ending.returned (.bool a) = .returned (.bool b) := by rw [h]
theorem ret_int {k : IntKind} {a b : Int} (h : a = b) : Ending.returned (.int k a) = .returned (.int k b) := by rw [h]
theorem drew0 (w : World) : ∃ k, w = w.drewN k := ⟨0, rfl⟩
theorem drew1 (w : World) (a : Nat) : ∃ k, w.drewN a = w.drewN k := ⟨a, rfl⟩
theorem drew2 (w : World) (a b : Nat) : ∃ k, (w.drewN a).drewN b = w.drewN k := ⟨_, World.drewN_drewN _ _ _⟩
theorem size_drewN (w : World) (n : Nat) : (w.drewN n).heap.size = w.heap.size := rfl

theorem results_cell {fn : Func} {p : Tmp} {ty : TypeId} (h : fn.results = #[.cell p ty]) (tmps : Array Value) (a : Addr) (hp : tmps.getD p undef = .pointer (some a)) (P : Program) (w : World) :
    (results fn tmps).run P w = (loadVar ty a).run P w := by
  simp only [results, h]
  have hq : tmps[p]?.getD undef = .pointer (some a) := by rw [← hp]; simp
  simp [hq, asAddr]

/-- Block g is just the cells cs of element type t, none of them frozen. -/
def Blk (w : World) (g : Nat) (t : TypeId) (cs : Array Value) : Prop := w.heap[g]? = some (.cells cs t (0, 0))
section
variable {w w' : World} {g : Nat} {t : TypeId} {cs : Array Value}
theorem Blk.lt (h : Blk w g t cs) : g < w.heap.size := by
  unfold Blk at h
  rcases Nat.lt_or_ge g w.heap.size with hlt | hge
  · exact hlt
  · rw [Array.getElem?_eq_none hge] at h; cases h
theorem Blk.cell (h : Blk w g t cs) (i : Nat) : w.cell? ⟨g, i, none⟩ = cs[i]? := cell_of_row w g i cs t (0, 0) h
theorem Blk.frozen (h : Blk w g t cs) (i : Nat) : w.frozen? ⟨g, i, none⟩ = false := by
  unfold Blk at h
  simp [World.frozen?, h]
theorem Blk.new (w : World) (t : TypeId) (cs : Array Value) : Blk (w.alloc (.cells cs t)) w.heap.size t cs := heap_alloc_new w _
theorem Blk.new' {g : Nat} (w : World) (t : TypeId) (cs : Array Value) (hg : w.heap.size = g) : Blk (w.alloc (.cells cs t)) g t cs := by subst hg; exact heap_alloc_new w _
theorem Blk.drewN (h : Blk w g t cs) (n : Nat) : Blk (w.drewN n) g t cs := h
theorem Blk.alloc (h : Blk w g t cs) (o : Obj) : Blk (w.alloc o) g t cs := (Below.heap_alloc w o g h.lt).trans h
theorem Blk.set_ (h : Blk w g t cs) (i : Nat) (u : Value) : Blk (w.setCell ⟨g, i, none⟩ u) g t (cs.setIfInBounds i u) := by
  unfold Blk at h ⊢
  simp [World.setCell, Array.getElem?_modify, h]
theorem Blk.far (h : Blk w g t cs) {p : Addr} (hp : g ≠ p.block) (u : Value) : Blk (w.setCell p u) g t cs := (Below.heap_setCell w p u g hp).trans h
theorem Blk.below {B : Nat} (h : Blk w g t cs) (hb : Below B w w') (hg : g < B) : Blk w' g t cs := (hb.block g hg).trans h
theorem Blk.grown {row : Option Nat} (h : Blk w g t cs) (hb : w.grownBy w' row) (hg : some g ≠ row) : Blk w' g t cs := (hb.block g h.lt hg).trans h
theorem Blk.set4 {a0 a1 a2 a3 : Value} (h : Blk w g t #[a0, a1, a2, a3]) (x0 x1 x2 x3 : Value) :
    Blk ((((w.setCell ⟨g, 0, none⟩ x0).setCell ⟨g, 1, none⟩ x1).setCell ⟨g, 2, none⟩ x2).setCell ⟨g, 3, none⟩ x3) g t #[x0, x1, x2, x3] := by
  have := (((h.set_ 0 x0).set_ 1 x1).set_ 2 x2).set_ 3 x3
  simpa using this
theorem Blk.ne_ {g' : Nat} {t' : TypeId} {cs' : Array Value} (h : Blk w g t cs) (h' : Blk w g' t' cs') (hne : t ≠ t') : g ≠ g' := by
  rintro rfl
  unfold Blk at h h'
  rw [h] at h'
  injection h' with h'
  injection h' with _ ht
  exact hne ht
end

theorem Reads.of_blk {w : World} {g B size n : Nat} {t : TypeId} {cs : Array Value} {xs : List Value} (h : Blk w g t cs) (hg : g < B) (hx : cs.toList = xs) (hn : xs.length = n * size) : Reads w B size (some ⟨g, 0, none⟩) n xs :=
  ⟨hn, fun _ => ⟨g, 0, rfl, hg, fun j u hu => by rw [Nat.zero_add, h.cell, ← Array.getElem?_toList, hx]; exact hu⟩⟩

/-- What is owned stays owned behind a call that turns nothing that was there. -/
theorem own_below {w w1 : World} {base : Nat} {e : TypeId} {size n : Nat} {v : Value} {xs : List Value} (h : w.ownsRow base e size v n xs) (hb : Below w.heap.size w w1) : w1.ownsRow base e size v n xs :=
  h.kept (row := none) ⟨hb.os, hb.tape, hb.output, hb.size, fun k hk _ => hb.block k hk⟩ (by cases hv : v.ownBlock <;> simp)

/-- Some bool, and what it is good for. -/
def RetIf (p : Prop) (w : World) (e : Ending) (w' : World) : Prop := ∃ b : Bool, e = .returned (.bool b) ∧ (b = true → p) ∧ Below w.heap.size w w'

/-- Integers as cells. -/
def ints (l : List Int) : List Value := l.map (Value.int .i64)
section
variable {w : World} {B n : Nat} {A : Option Addr}
theorem Reads.len_ints {l : List Int} (h : Reads w B 1 A n (ints l)) : l.length = n := by have := h.1; simpa [ints] using this
theorem Reads.int_at {l : List Int} (h : Reads w B 1 A n (ints l)) {k : Nat} (hk : k < n) :
    ∃ b off, A = some ⟨b, off, none⟩ ∧ b < B ∧ w.cell? ⟨b, off + k, none⟩ = some (.int .i64 (l[k]?.getD 0)) := by
  obtain ⟨b, off, e, hb, hc⟩ := h.2 (by omega)
  have hl : k < l.length := by rw [h.len_ints]; exact hk
  refine ⟨b, off, e, hb, hc k _ ?_⟩
  simp [ints, hl]
end

end Go.Proofs.YthakcefgbggkcaaDoor

namespace Go.Proofs.YthakcefgbggkcaaDoor
open Go.RowKit Go.ChangeShapes Go.WideShapes Go.ChangeAt Go.Joins

theorem Tryd.own : ownKnob Tryd.prog.godebug = none := by kernel_rfl
theorem Tryd.laidOut : laidOutB Tryd.prog = true := by kernel_rfl

section
variable {H : Type} {enc : TypeId × Value → H}
theorem trodAll_stays {W W' : World} (hb : Below W.heap.size W W') (ts : List TypeId) : ∀ (vs : List Value) (ds : List (DataW H)) (ps : List MemPlace),
    (∀ t ∈ ts, Tryd.prog.readableRec t = true ∧ t < Tryd.prog.types.size) → DataW.TrodAll enc Tryd.prog W 0 (fun _ => true) true ts vs ds ps → (∀ x ∈ ps, x.block < W.heap.size) →
    DataW.TrodAll enc Tryd.prog W' 0 (fun b => decide (b < W.heap.size)) true ts vs ds ps := by
  induction ts with
  | nil =>
    intro vs ds ps _ h _
    obtain ⟨rfl, rfl, rfl⟩ := trodAll_nil h
    rfl
  | cons t ts ih =>
    intro vs ds ps ht h hlt
    obtain ⟨v, vs', d, ds', p, q, rfl, rfl, rfl, h0, h1⟩ := trodAll_cons h
    have ht0 := ht t List.mem_cons_self
    exact trodAll_cons_mk (Below.trod Tryd.laidOut ht0.1 ht0.2 h0 hb (fun x hx => hlt x (List.mem_append_left _ hx))) (ih vs' ds' q (fun t' ht' => ht t' (List.mem_cons_of_mem _ ht')) h1 (fun x hx => hlt x (List.mem_append_right _ hx)))
theorem readables {ts : List TypeId} (h : (ts.all fun t => Tryd.prog.readableRec t && decide (t < Tryd.prog.types.size)) = true) : ∀ t ∈ ts, Tryd.prog.readableRec t = true ∧ t < Tryd.prog.types.size := by
  intro t ht
  have := List.all_eq_true.1 h t ht
  simp only [Bool.and_eq_true, decide_eq_true_eq] at this
  exact this

/-- The row's last step: the call has returned true and turned nothing that was there. -/
theorem law_post {f : Func} {s : ChangeSpec} {W W' : World} {args : Array Value} {ds gs : List (DataW H)} {before : List MemPlace}
    (hr : f.resultTypes.toList = [4]) (hn : f.resultTypes.size = 1) (hv : s.vars = []) (hts : (f.params.toList.all fun t => Tryd.prog.readableRec t && decide (t < Tryd.prog.types.size)) = true)
    (hW : DataW.Whole enc Tryd.prog f.params.toList s.vars false W args.toList ds gs before) (hfr : (s.fn H (ds ++ gs)).results = [.lit (.bool true)]) (hfa : (s.fn H (ds ++ gs)).args = ds) (hfv : (s.fn H (ds ++ gs)).vars = [])
    (hb : Below W.heap.size W W') : s.post enc Tryd.prog f false true false false W args (.bool true) W' := by
  have hW' := hW
  obtain ⟨p, q, hA, hV, rfl, _, _⟩ := hW
  rw [hv] at hV
  obtain ⟨rfl, rfl⟩ := trodVars_none hV
  rw [List.append_nil] at hW'
  have hlt : ∀ x ∈ p, x.block < W.heap.size := fun x hx => by simpa using hW'.lt x hx
  refine ⟨ds, [], p, [], p, [], hW', ?_, ?_, ?_, hb.frame _, fun h => by cases h⟩
  · rw [hr, hfr, hn]; exact trodAll_mk1 (shut_bool Tryd.underlying4 true)
  · rw [hfa]; exact trodAll_stays hb _ _ _ _ (readables hts) hA hlt
  · rw [hv, hfv]; rfl

theorem cells_int : Tryd.prog.cellsOf 3 = 1 := by kernel_rfl
theorem addr_form {w : World} {a : Addr} {u : Value} (h : w.cell? (a.add 0) = some u) : a = ⟨a.block, a.off, none⟩ := by
  obtain ⟨b, off, spot⟩ := a
  have hspot : spot = none := World.cell?_spot h
  subst hspot
  rfl
theorem reads_of {w : World} {size n : Nat} {a : Addr} {xs : List Value} (hs : 0 < size) (hl : xs.length = n * size) (hc : ∀ j u, xs[j]? = some u → w.cell? (a.add j) = some u) : Reads w w.heap.size size (some a) n xs := by
  refine ⟨hl, fun hn => ?_⟩
  have h0 : 0 < xs.length := by rw [hl]; exact Nat.mul_pos hn hs
  have hc0 := hc 0 xs[0] (List.getElem?_eq_getElem h0)
  have ha := addr_form hc0
  refine ⟨a.block, a.off, by rw [← ha], ?_, fun j u hu => ?_⟩
  · have := World.block_lt_of_cell? w _ hc0
    rw [block_of_add] at this
    exact this
  · have := hc j u hu
    rw [ha, Addr.add_lit] at this
    exact this

theorem open_ints_reads {W : World} {sp : Nat → Bool} {hd : Bool} {n : Nat} {v0 : Value} {y : DataW H × List MemPlace} (h : DataW.trod enc Tryd.prog W 0 sp hd n 26 [v0] = some y) :
    ∃ A len cap l, v0 = .slice A len cap ∧ Reads W W.heap.size 1 A len (ints l) ∧ len ≤ maxLen := by
  rcases open_ints Tryd.underlying26 Tryd.underlying3 cells_int h with ⟨hcs, _⟩ | ⟨a, len, cap, zs, hcs, _, hl, hm, hz, _, hcell, _⟩
  · simp at hcs
    subst hcs
    exact ⟨none, 0, 0, [], rfl, Reads.nil_, by unfold maxLen; omega⟩
  · simp at hcs
    subst hcs
    refine ⟨some a, len, cap, zs.take len, rfl, reads_of (by omega) ?_ ?_, by omega⟩
    · simp only [ints, List.length_map, List.length_take, hz]; split <;> omega
    · intro j u hu
      simp only [ints, List.getElem?_map, List.getElem?_take] at hu
      split at hu
      · cases hzj : zs[j]? with
        | none => rw [hzj] at hu; simp at hu
        | some z =>
          rw [hzj] at hu
          simp at hu
          subst hu
          have hj := (List.getElem?_eq_some_iff.1 hzj).1
          rw [hcell j hj]
          simp [hzj]
      · simp at hu
end
end Go.Proofs.YthakcefgbggkcaaDoor

namespace Go.Proofs.YthakcefgbggkcaaDoor

/-- A value: cost and size. -/
structure Vl where
  c : Int
  s : Int
theorem Vl.ext' {a b : Vl} (h1 : a.c = b.c) (h2 : a.s = b.s) : a = b := by
  cases a; cases b; simp at h1 h2; simp [h1, h2]
def vle (a b : Vl) : Prop := a.c < b.c ∨ (a.c = b.c ∧ a.s ≤ b.s)
def vtop : Vl := ⟨1099511627776, 0⟩
/-- Ordinary: both numbers from 0 to what is infinite. -/
def Ordy (v : Vl) : Prop := 0 ≤ v.c ∧ v.c ≤ 1099511627776 ∧ 0 ≤ v.s ∧ v.s ≤ 1099511627776
/-- Ordinary, and of infinite ones only the one. -/
def Nrm (v : Vl) : Prop := Ordy v ∧ (v.c = 1099511627776 → v.s = 0)
theorem Nrm.top : Nrm vtop := ⟨⟨by decide, by decide, by decide, by decide⟩, fun _ => rfl⟩
theorem vle.refl (a : Vl) : vle a a := .inr ⟨rfl, Int.le_refl _⟩
theorem vle.trans {a b c : Vl} (h : vle a b) (h' : vle b c) : vle a c := by unfold vle at *; omega
theorem vle.antisymm {a b : Vl} (h : vle a b) (h' : vle b a) : a = b := by
  unfold vle at *
  exact Vl.ext' (by omega) (by omega)
theorem vle.total (a b : Vl) : vle a b ∨ vle b a := by unfold vle; omega
theorem Nrm.le_top {a : Vl} (h : Nrm a) : vle a vtop := by
  obtain ⟨⟨h1, h2, h3, h4⟩, h5⟩ := h
  by_cases e : a.c = 1099511627776
  · exact .inr ⟨e, by rw [h5 e]; exact Int.le_refl _⟩
  · exact .inl (by show a.c < 1099511627776; omega)
def vstep (o v : Vl) : Vl := ⟨min (o.c + v.c) 1099511627776, min (o.s + v.s) 1099511627776⟩
def vfin (o : Vl) : Vl := if o.c = 1099511627776 then vtop else o
/-- What a hyperedge of this cost makes of these values. -/
def comb (cost : Int) (l : List Vl) : Vl := vfin (l.foldl vstep ⟨min cost 1099511627776, 1⟩)

theorem vstep_ord {o v : Vl} (ho : Ordy o) (hv : Ordy v) : Ordy (vstep o v) := by
  unfold Ordy at *
  simp only [vstep]
  omega
theorem fold_ord : ∀ {l : List Vl} {o : Vl}, Ordy o → (∀ v ∈ l, Ordy v) → Ordy (l.foldl vstep o)
  | [], _, h, _ => h
  | v :: l, o, h, hl => fold_ord (l := l) (vstep_ord h (hl v (by simp))) (fun u hu => hl u (by simp [hu]))
theorem start_ord {cost : Int} (h : 0 ≤ cost) : Ordy ⟨min cost 1099511627776, 1⟩ := by
  unfold Ordy
  simp only
  omega
theorem vfin_nrm {o : Vl} (h : Ordy o) : Nrm (vfin o) := by
  unfold vfin
  split
  · exact Nrm.top
  · exact ⟨h, fun e => by contradiction⟩
theorem comb_nrm {cost : Int} {l : List Vl} (h : 0 ≤ cost) (hl : ∀ v ∈ l, Ordy v) : Nrm (comb cost l) := vfin_nrm (fold_ord (start_ord h) hl)

/-- The order of what is summed: infinite costs are alike. -/
def vleS (a b : Vl) : Prop := a.c < b.c ∨ (a.c = b.c ∧ (1099511627776 ≤ a.c ∨ a.s ≤ b.s))
theorem vleS.of {a b : Vl} (h : vle a b) : vleS a b := by unfold vle at h; unfold vleS; omega
theorem vstep_mono {o o' v v' : Vl} (ho : vleS o o') (hv : vle v v') (h1 : Ordy o) (h2 : Ordy o') (h3 : Ordy v) (h4 : Ordy v') : vleS (vstep o v) (vstep o' v') := by
  unfold vleS vle Ordy at *
  simp only [vstep]
  omega
/-- Two lists, the first nowhere greater. -/
inductive LeL : List Vl → List Vl → Prop
  | nil : LeL [] []
  | cons {a b : Vl} {l m : List Vl} : vle a b → LeL l m → LeL (a :: l) (b :: m)
theorem LeL.refl : ∀ l : List Vl, LeL l l
  | [] => .nil
  | a :: l => .cons (vle.refl a) (LeL.refl l)
theorem LeL.map {α : Type} {f g : α → Vl} : ∀ {l : List α}, (∀ x ∈ l, vle (f x) (g x)) → LeL (l.map f) (l.map g)
  | [], _ => .nil
  | x :: l, h => .cons (h x (by simp)) (LeL.map (l := l) fun y hy => h y (by simp [hy]))
theorem LeL.set : ∀ {l : List Vl} {i : Nat} {a b : Vl}, l[i]? = some a → vle b a → LeL (l.set i b) l
  | [], _, _, _, h, _ => by simp at h
  | x :: l, 0, a, b, h, hb => by
    simp at h
    subst h
    exact .cons hb (LeL.refl l)
  | x :: l, i + 1, a, b, h, hb => by
    simp at h
    exact .cons (vle.refl x) (LeL.set h hb)
theorem fold_mono {l m : List Vl} (h : LeL l m) : ∀ {o o' : Vl}, vleS o o' → Ordy o → Ordy o' → (∀ v ∈ l, Ordy v) → (∀ v ∈ m, Ordy v) → vleS (l.foldl vstep o) (m.foldl vstep o') := by
  induction h with
  | nil => intro o o' h _ _ _ _; exact h
  | cons hab _ ih =>
    intro o o' h h1 h2 h3 h4
    exact ih (vstep_mono h hab h1 h2 (h3 _ (by simp)) (h4 _ (by simp))) (vstep_ord h1 (h3 _ (by simp))) (vstep_ord h2 (h4 _ (by simp))) (fun v hv => h3 v (by simp [hv])) (fun v hv => h4 v (by simp [hv]))
theorem vfin_mono {a b : Vl} (h : vleS a b) (ha : Ordy a) (hb : Ordy b) : vle (vfin a) (vfin b) := by
  unfold vfin
  unfold vleS at h
  have h1 := ha.2.1
  have h2 := hb.2.1
  split
  · rename_i e
    split
    · exact vle.refl _
    · omega
  · rename_i e
    split
    · exact .inl (by show a.c < 1099511627776; omega)
    · unfold vle; omega
theorem comb_mono {cost : Int} {l m : List Vl} (h0 : 0 ≤ cost) (h : LeL l m) (h3 : ∀ v ∈ l, Ordy v) (h4 : ∀ v ∈ m, Ordy v) : vle (comb cost l) (comb cost m) :=
  vfin_mono (fold_mono h (vleS.of (vle.refl _)) (start_ord h0) (start_ord h0) h3 h4) (fold_ord (start_ord h0) h3) (fold_ord (start_ord h0) h4)
theorem comb_mono_cost {cost cost' : Int} {l : List Vl} (h0 : 0 ≤ cost) (hc : cost ≤ cost') (h3 : ∀ v ∈ l, Ordy v) : vle (comb cost l) (comb cost' l) :=
  vfin_mono (fold_mono (LeL.refl l) (by unfold vleS; simp only; omega) (start_ord h0) (start_ord (by omega)) h3 h3) (fold_ord (start_ord h0) h3) (fold_ord (start_ord (by omega)) h3)
theorem comb_mono_cost2 {cost cost' : Int} {l m : List Vl} (h0 : 0 ≤ cost) (hc : cost ≤ cost') (h : LeL l m) (h3 : ∀ v ∈ l, Ordy v) (h4 : ∀ v ∈ m, Ordy v) : vle (comb cost l) (comb cost' m) :=
  (comb_mono_cost h0 hc h3).trans (comb_mono (by omega) h h3 h4)
theorem fold_ge : ∀ {l : List Vl} {o : Vl}, Ordy o → (∀ v ∈ l, Ordy v) → o.c ≤ (l.foldl vstep o).c ∧ o.s ≤ (l.foldl vstep o).s
  | [], _, _, _ => ⟨Int.le_refl _, Int.le_refl _⟩
  | v :: l, o, h, hl => by
    have hv := hl v (by simp)
    have ih := fold_ge (l := l) (vstep_ord h hv) (fun u hu => hl u (by simp [hu]))
    unfold Ordy at h hv
    simp only [List.foldl_cons]
    have h1 : o.c ≤ (vstep o v).c := by simp only [vstep]; omega
    have h2 : o.s ≤ (vstep o v).s := by simp only [vstep]; omega
    omega
theorem fold_sup : ∀ {l : List Vl} {o v : Vl}, Ordy o → (∀ v ∈ l, Ordy v) → v ∈ l → v.c ≤ (l.foldl vstep o).c ∧ min (v.s + o.s) 1099511627776 ≤ (l.foldl vstep o).s
  | [], _, _, _, _, h => by simp at h
  | u :: l, o, v, h, hl, hv => by
    have hu := hl u (by simp)
    have hs := vstep_ord h hu
    simp only [List.foldl_cons]
    rcases List.mem_cons.1 hv with rfl | hv
    · have := fold_ge (l := l) hs (fun u hu => hl u (by simp [hu]))
      unfold Ordy at h hu
      have h1 : v.c ≤ (vstep o v).c := by simp only [vstep]; omega
      have h2 : min (v.s + o.s) 1099511627776 ≤ (vstep o v).s := by simp only [vstep]; omega
      omega
    · have ih := fold_sup (l := l) hs (fun u hu => hl u (by simp [hu])) hv
      unfold Ordy at h hu
      have h2 : o.s ≤ (vstep o u).s := by simp only [vstep]; omega
      omega
/-- A combination is not less than what it combines. -/
theorem comb_sup {cost : Int} {l : List Vl} {v : Vl} (h0 : 0 ≤ cost) (hl : ∀ v ∈ l, Ordy v) (hv : v ∈ l) (hn : Nrm v) : vle v (comb cost l) := by
  have h1 := fold_sup (start_ord h0) hl hv
  have h2 := fold_ord (l := l) (start_ord h0) hl
  have h3 := hl v hv
  unfold comb vfin
  split
  · exact hn.le_top
  · unfold Ordy at *
    simp only at h1
    unfold vle
    omega
/-- And it is greater, where nothing is infinite. -/
theorem comb_sup' {cost : Int} {l : List Vl} {v : Vl} (h0 : 0 ≤ cost) (hl : ∀ v ∈ l, Ordy v) (hv : v ∈ l) (h : (comb cost l).c < 1099511627776) (hs : (comb cost l).s < 1099511627776) : v.c < (comb cost l).c ∨ (v.c = (comb cost l).c ∧ v.s < (comb cost l).s) := by
  have h1 := fold_sup (start_ord h0) hl hv
  unfold comb vfin at *
  split at h
  · exact absurd h (by decide)
  · rename_i e
    rw [if_neg e] at hs ⊢
    simp only at h1
    omega
/-- What is finite combines finite ones alone. -/
theorem comb_finite {cost : Int} {l : List Vl} {v : Vl} (h0 : 0 ≤ cost) (hl : ∀ v ∈ l, Ordy v) (hv : v ∈ l) (h : (comb cost l).c < 1099511627776) : v.c < 1099511627776 := by
  have h1 := fold_sup (start_ord h0) hl hv
  unfold comb vfin at *
  split at h
  · exact absurd h (by decide)
  · omega
theorem comb_cost_lt {cost : Int} {l : List Vl} (hl : ∀ v ∈ l, Ordy v) (h0 : 0 ≤ cost) (h : (comb cost l).c < 1099511627776) : cost < 1099511627776 ∧ 1 ≤ (comb cost l).s := by
  have h1 := fold_ge (start_ord h0) hl
  unfold comb vfin at *
  split at h
  · exact absurd h (by decide)
  · rename_i e
    rw [if_neg e]
    simp only at h1
    omega
end Go.Proofs.YthakcefgbggkcaaDoor

namespace Go.Proofs.YthakcefgbggkcaaDoor

/-- A rule of a normal grammar. -/
structure Rl where
  k : Int
  hd : Int
  a : Int
  b : Int
  p : Int
  o : Int
/-- An arc of a lattice; its operations lie at A. -/
structure Ar where
  fr : Int
  tt : Int
  tm : Int
  co : Int
  A : Option Addr
  n : Nat
  c : Nat
structure It where
  h : Int
  f : Int
  t : Int
/-- An instance of a rule: its argument, its price, the items that it uses. -/
structure Ins where
  arg : Int
  pr : Int
  us : List It
/-- A valid rule of a grammar with N nonterminals. -/
structure Rl.Ok (r : Rl) (N : Nat) : Prop where
  hd : 0 ≤ r.hd ∧ r.hd < N
  p : 0 ≤ r.p ∧ r.p ≤ 1000
  k : (r.k = 1 ∨ r.k = 2) ∨ (r.k = 3 ∧ 0 ≤ r.a ∧ r.a < N) ∨ (r.k = 4 ∧ (0 ≤ r.a ∧ r.a < N) ∧ (0 ≤ r.b ∧ r.b < N))
/-- An arc precedes another one. -/
def Ar.bf (a b : Ar) : Prop := a.fr < b.fr ∨ (a.fr = b.fr ∧ (a.tt < b.tt ∨ (a.tt = b.tt ∧ a.tm < b.tm)))
/-- Valid arcs. -/
structure ArsOk (S : Nat) (L : List Ar) : Prop where
  ok : ∀ a ∈ L, 0 ≤ a.fr ∧ a.fr ≤ a.tt ∧ a.tt < S ∧ 0 ≤ a.co ∧ a.co < 1099511627776
  so : ∀ (i : Nat) (a b : Ar), L[i]? = some a → L[i + 1]? = some b → a.bf b

/-- Whether an arc serves a rule between two states. -/
def Ar.fits (s t tm : Int) (a : Ar) : Bool := decide (a.fr = s) && (decide (a.tt = t) && decide (a.tm = tm))
/-- The arcs that serve, with their places. -/
def arcsOf (L : List Ar) (s t : Nat) (r : Rl) : List Ins := (List.range L.length).filterMap fun i => match L[i]? with
  | some a => if a.fits s t r.a then some ⟨i, r.p + a.co, []⟩ else none
  | none => none
def splits (s t : Nat) (r : Rl) : List Ins := (List.range (t + 1 - s)).map fun (j : Nat) => ⟨((s + j : Nat) : Int), r.p, [⟨r.a, s, (s + j : Nat)⟩, ⟨r.b, (s + j : Nat), t⟩]⟩
/-- The instances of a rule for a span. -/
def insts (L : List Ar) (s t : Nat) (r : Rl) : List Ins :=
  if r.k = 1 then (if s = t then [⟨s, r.p, []⟩] else [])
  else if r.k = 2 then arcsOf L s t r
  else if r.k = 3 then [⟨s, r.p, [⟨r.a, s, t⟩]⟩]
  else splits s t r
/-- The value of an instance. -/
def iv (W : It → Vl) (i : Ins) : Vl := comb i.pr (i.us.map W)
def It.own (s t : Nat) (x : It) : Bool := decide (x.f = s) && decide (x.t = t)
/-- The values of the items: those of the span, those given. -/
def spv (C : It → Vl) (s t : Nat) (U : Nat → Vl) (x : It) : Vl := if x.own s t then U x.h.toNat else C x
def PreS (R : List Rl) (L : List Ar) (s t : Nat) (C : It → Vl) (U : Nat → Vl) : Prop := ∀ r ∈ R, ∀ i ∈ insts L s t r, vle (U r.hd.toNat) (iv (spv C s t U) i)
/-- The least values of a span: the greatest ones that no instance undercuts. -/
structure SSol (R : List Rl) (L : List Ar) (s t : Nat) (C : It → Vl) (U : Nat → Vl) : Prop where
  nrm : ∀ h, Nrm (U h)
  pre : PreS R L s t C U
  top : ∀ U', (∀ h, Nrm (U' h)) → PreS R L s t C U' → ∀ h, vle (U' h) (U h)

section
variable {R : List Rl} {L : List Ar} {s t N S : Nat} {C C' : It → Vl} {U U' : Nat → Vl}
theorem SSol.uniq (h : SSol R L s t C U) (h' : SSol R L s t C U') : U = U' := funext fun i => (h'.top U h.nrm h.pre i).antisymm (h.top U' h'.nrm h'.pre i)
theorem mem_arcs {r : Rl} {i : Ins} : i ∈ arcsOf L s t r ↔ ∃ (k : Nat) (a : Ar), L[k]? = some a ∧ a.fr = s ∧ a.tt = t ∧ a.tm = r.a ∧ i = ⟨k, r.p + a.co, []⟩ := by
  unfold arcsOf
  rw [List.mem_filterMap]
  constructor
  · rintro ⟨k, hk, h⟩
    cases ha : L[k]? with
    | none => rw [ha] at h; simp at h
    | some a =>
      rw [ha] at h
      simp only [Option.ite_none_right_eq_some, Option.some.injEq] at h
      obtain ⟨h1, h2⟩ := h
      simp only [Ar.fits, Bool.and_eq_true, decide_eq_true_eq] at h1
      exact ⟨k, a, ha, h1.1, h1.2.1, h1.2.2, h2.symm⟩
  · rintro ⟨k, a, ha, h1, h2, h3, rfl⟩
    refine ⟨k, List.mem_range.2 (List.getElem?_eq_some_iff.1 ha).1, ?_⟩
    rw [ha]
    simp [Ar.fits, h1, h2, h3]
theorem mem_splits {r : Rl} {i : Ins} : i ∈ splits s t r ↔ ∃ m : Nat, s ≤ m ∧ m < t + 1 ∧ i = ⟨m, r.p, [⟨r.a, s, m⟩, ⟨r.b, m, t⟩]⟩ := by
  unfold splits
  rw [List.mem_map]
  constructor
  · rintro ⟨j, hj, rfl⟩
    have := List.mem_range.1 hj
    exact ⟨s + j, by omega, by omega, rfl⟩
  · rintro ⟨m, h1, h2, rfl⟩
    refine ⟨m - s, List.mem_range.2 (by omega), ?_⟩
    rw [show s + (m - s) = m by omega]
/-- The items that an instance uses lie within the span. -/
theorem insts_in {r : Rl} (hr : r.Ok N) (hst : s ≤ t) {i : Ins} (hi : i ∈ insts L s t r) {x : It} (hx : x ∈ i.us) : (0 ≤ x.h ∧ x.h < N) ∧ (s : Int) ≤ x.f ∧ x.f ≤ x.t ∧ x.t ≤ t := by
  unfold insts at hi
  split at hi
  · split at hi
    · simp at hi; subst hi; simp at hx
    · simp at hi
  · split at hi
    · obtain ⟨k, a, _, _, _, _, rfl⟩ := mem_arcs.1 hi
      simp at hx
    · split at hi
      · rename_i h1 h2 h3
        simp at hi
        subst hi
        simp at hx
        subst hx
        rcases hr.k with h | h | h
        · omega
        · exact ⟨h.2, by simp, by simp; omega, by simp⟩
        · omega
      · rename_i h1 h2 h3
        obtain ⟨m, hm1, hm2, rfl⟩ := mem_splits.1 hi
        rcases hr.k with h | h | h
        · omega
        · omega
        · simp at hx
          rcases hx with rfl | rfl
          · exact ⟨h.2.1, by simp, by simp; omega, by simp; omega⟩
          · exact ⟨h.2.2, by simp; omega, by simp; omega, by simp⟩
theorem insts_pr {r : Rl} (hr : r.Ok N) (hL : ArsOk S L) {i : Ins} (hi : i ∈ insts L s t r) : 0 ≤ i.pr ∧ i.pr ≤ 1099511628776 := by
  have hp := hr.p
  unfold insts at hi
  split at hi
  · split at hi
    · simp at hi; subst hi; simp only; omega
    · simp at hi
  · split at hi
    · obtain ⟨k, a, ha, _, _, _, rfl⟩ := mem_arcs.1 hi
      have := hL.ok a (List.mem_of_getElem? ha)
      simp only; omega
    · split at hi
      · simp at hi; subst hi; simp only; omega
      · obtain ⟨m, hm1, hm2, rfl⟩ := mem_splits.1 hi
        simp only; omega
theorem insts_len {r : Rl} {i : Ins} (hi : i ∈ insts L s t r) : i.us.length ≤ 2 := by
  unfold insts at hi
  split at hi
  · split at hi
    · simp at hi; subst hi; simp
    · simp at hi
  · split at hi
    · obtain ⟨k, a, _, _, _, _, rfl⟩ := mem_arcs.1 hi
      simp
    · split at hi
      · simp at hi; subst hi; simp
      · obtain ⟨m, hm1, hm2, rfl⟩ := mem_splits.1 hi
        simp
theorem own_iff {x : It} : x.own s t = true ↔ x.f = s ∧ x.t = t := by simp [It.own]
theorem spv_nrm (hC : ∀ x, Nrm (C x)) (hU : ∀ h, Nrm (U h)) (x : It) : Nrm (spv C s t U x) := by
  unfold spv
  split
  · exact hU _
  · exact hC _
theorem iv_ord {W : It → Vl} (hW : ∀ x, Nrm (W x)) (i : Ins) : ∀ v ∈ i.us.map W, Ordy v := fun v hv => by
  obtain ⟨x, _, rfl⟩ := List.mem_map.1 hv
  exact (hW x).1
theorem iv_nrm {W : It → Vl} {i : Ins} (hW : ∀ x, Nrm (W x)) (h0 : 0 ≤ i.pr) : Nrm (iv W i) := comb_nrm h0 (iv_ord hW i)
theorem iv_mono {W W' : It → Vl} {i : Ins} (hW : ∀ x, Nrm (W x)) (hW' : ∀ x, Nrm (W' x)) (h0 : 0 ≤ i.pr) (h : ∀ x ∈ i.us, vle (W x) (W' x)) : vle (iv W i) (iv W' i) :=
  comb_mono h0 (LeL.map h) (iv_ord hW i) (iv_ord hW' i)
theorem iv_mono2 {W W' : It → Vl} {i j : Ins} (hW : ∀ x, Nrm (W x)) (hW' : ∀ x, Nrm (W' x)) (h0 : 0 ≤ i.pr) (hp : i.pr ≤ j.pr) (hu : i.us = j.us) (h : ∀ x ∈ i.us, vle (W x) (W' x)) : vle (iv W i) (iv W' j) := by
  unfold iv
  rw [← hu]
  exact comb_mono_cost2 h0 hp (LeL.map h) (iv_ord hW i) (iv_ord hW' i)
theorem iv_sup {W : It → Vl} {i : Ins} (hW : ∀ x, Nrm (W x)) (h0 : 0 ≤ i.pr) {x : It} (hx : x ∈ i.us) : vle (W x) (iv W i) :=
  comb_sup h0 (iv_ord hW i) (List.mem_map.2 ⟨x, hx, rfl⟩) (hW _)
theorem iv_fin {W : It → Vl} {i : Ins} (hW : ∀ x, Nrm (W x)) (h0 : 0 ≤ i.pr) (h : (iv W i).c < 1099511627776) {x : It} (hx : x ∈ i.us) : (W x).c < 1099511627776 :=
  comb_finite h0 (iv_ord hW i) (List.mem_map.2 ⟨x, hx, rfl⟩) h
theorem iv_congr {W W' : It → Vl} {i : Ins} (h : ∀ x ∈ i.us, W x = W' x) : iv W i = iv W' i := by
  unfold iv
  congr 1
  exact List.map_congr_left h
theorem Nrm.eq_top {v : Vl} (h : Nrm v) (hc : 1099511627776 ≤ v.c) : v = vtop := by
  have h1 := h.1.2.1
  have hce : v.c = 1099511627776 := by omega
  exact Vl.ext' hce (h.2 hce)
/-- Only the values of the items inside the span count. -/
def AgreeIn (N s t : Nat) (C C' : It → Vl) : Prop := ∀ x : It, (0 ≤ x.h ∧ x.h < N) → (s : Int) ≤ x.f → x.f ≤ x.t → x.t ≤ t → x.own s t = false → C x = C' x
theorem spv_agree (h : AgreeIn N s t C C') {x : It} (h1 : 0 ≤ x.h ∧ x.h < N) (h2 : (s : Int) ≤ x.f) (h3 : x.f ≤ x.t) (h4 : x.t ≤ t) : spv C s t U x = spv C' s t U x := by
  unfold spv
  cases ho : x.own s t with
  | true => rfl
  | false => simp [h x h1 h2 h3 h4 ho]
theorem iv_agree (hR : ∀ r ∈ R, r.Ok N) (hst : s ≤ t) (h : AgreeIn N s t C C') {r : Rl} (hr : r ∈ R) {i : Ins} (hi : i ∈ insts L s t r) : iv (spv C s t U) i = iv (spv C' s t U) i :=
  iv_congr fun x hx => by
    obtain ⟨h1, h2, h3, h4⟩ := insts_in (hR r hr) hst hi hx
    exact spv_agree h h1 h2 h3 h4
theorem PreS.agree (hR : ∀ r ∈ R, r.Ok N) (hst : s ≤ t) (h : AgreeIn N s t C C') (hp : PreS R L s t C U) : PreS R L s t C' U := fun r hr i hi => by
  rw [← iv_agree hR hst h hr hi]
  exact hp r hr i hi
theorem AgreeIn.symm (h : AgreeIn N s t C C') : AgreeIn N s t C' C := fun x h1 h2 h3 h4 h5 => (h x h1 h2 h3 h4 h5).symm
theorem SSol.agree (hR : ∀ r ∈ R, r.Ok N) (hst : s ≤ t) (h : AgreeIn N s t C C') (hs : SSol R L s t C U) : SSol R L s t C' U :=
  ⟨hs.nrm, hs.pre.agree hR hst h, fun U' hU hp => hs.top U' hU (hp.agree hR hst h.symm)⟩
end

/-- A cell: a value, the rule and the argument that attain it. -/
structure Cl where
  v : Vl
  r : Int
  a : Int
def cnone : Cl := ⟨vtop, -1, 0⟩
/-- The instances of all rules with one head, in order, with the rules' numbers. -/
def insH (R : List Rl) (L : List Ar) (s t h : Nat) : List (Nat × Ins) := (List.range R.length).flatMap fun k => match R[k]? with
  | some r => if r.hd.toNat = h then (insts L s t r).map fun i => (k, i) else []
  | none => []
def atts (C : It → Vl) (s t : Nat) (U : Nat → Vl) (h : Nat) (x : Nat × Ins) : Bool := decide ((iv (spv C s t U) x.2).c = (U h).c) && decide ((iv (spv C s t U) x.2).s = (U h).s)
theorem atts_iff {C : It → Vl} {s t : Nat} {U : Nat → Vl} {h : Nat} {x : Nat × Ins} : atts C s t U h x = true ↔ iv (spv C s t U) x.2 = U h := by
  simp only [atts, Bool.and_eq_true, decide_eq_true_eq]
  exact ⟨fun e => Vl.ext' e.1 e.2, fun e => by rw [e]; exact ⟨rfl, rfl⟩⟩
/-- The cell of a nonterminal: the first instance that attains its value. -/
def cel (R : List Rl) (L : List Ar) (s t : Nat) (C : It → Vl) (U : Nat → Vl) (h : Nat) : Cl :=
  if (U h).c < 1099511627776 then (match (insH R L s t h).find? (atts C s t U h) with
    | some x => ⟨U h, x.1, x.2.arg⟩
    | none => cnone) else cnone
theorem mem_insH {R : List Rl} {L : List Ar} {s t h : Nat} {k : Nat} {i : Ins} : (k, i) ∈ insH R L s t h ↔ ∃ r, R[k]? = some r ∧ r.hd.toNat = h ∧ i ∈ insts L s t r := by
  unfold insH
  rw [List.mem_flatMap]
  constructor
  · rintro ⟨k', hk', hm⟩
    cases hr : R[k']? with
    | none => rw [hr] at hm; simp at hm
    | some r =>
      rw [hr] at hm
      simp only at hm
      split at hm
      · rename_i hh
        obtain ⟨i', hi', e⟩ := List.mem_map.1 hm
        injection e with e1 e2
        subst e1 e2
        exact ⟨r, hr, hh, hi'⟩
      · simp at hm
  · rintro ⟨r, hr, hh, hi⟩
    refine ⟨k, List.mem_range.2 (List.getElem?_eq_some_iff.1 hr).1, ?_⟩
    rw [hr]
    simp only [hh, if_true]
    exact List.mem_map.2 ⟨i, hi, rfl⟩
theorem cel_agree {R : List Rl} {L : List Ar} {s t N : Nat} {C C' : It → Vl} {U : Nat → Vl} {h : Nat} (hR : ∀ r ∈ R, r.Ok N) (hst : s ≤ t) (ha : AgreeIn N s t C C') : cel R L s t C U h = cel R L s t C' U h := by
  unfold cel
  have e : (insH R L s t h).find? (atts C s t U h) = (insH R L s t h).find? (atts C' s t U h) := by
    have key : ∀ l : List (Nat × Ins), (∀ x ∈ l, x ∈ insH R L s t h) → l.find? (atts C s t U h) = l.find? (atts C' s t U h) := by
      intro l
      induction l with
      | nil => intro _; rfl
      | cons x l ih =>
        intro hl
        have hx := hl x (by simp)
        obtain ⟨k, i⟩ := x
        obtain ⟨r, hr, hh, hi⟩ := mem_insH.1 hx
        have e1 : atts C s t U h (k, i) = atts C' s t U h (k, i) := by
          unfold atts
          rw [iv_agree hR hst ha (List.mem_of_getElem? hr) hi]
        rw [List.find?_cons, List.find?_cons, e1, ih (fun y hy => hl y (by simp [hy]))]
    exact key _ fun _ h => h
  rw [e]
end Go.Proofs.YthakcefgbggkcaaDoor

namespace Go.Proofs.YthakcefgbggkcaaDoor
open Go.RowKit
variable {F G : Nat → Prop} {w w1 w' : World}

/-- Of what was there, only blocks of F are turned. -/
structure Touch (F : Nat → Prop) (w w' : World) : Prop where
  os : w'.os = w.os
  tape : w'.tape = w.tape
  output : w'.output = w.output
  size : w.heap.size ≤ w'.heap.size
  block : ∀ k, k < w.heap.size → ¬ F k → w'.heap[k]? = w.heap[k]?
theorem Touch.refl (F : Nat → Prop) (w : World) : Touch F w w := ⟨rfl, rfl, rfl, Nat.le_refl _, fun _ _ _ => rfl⟩
theorem Touch.trans (h : Touch F w w1) (h' : Touch G w1 w') (hG : ∀ k, G k → F k ∨ w.heap.size ≤ k) : Touch F w w' :=
  ⟨h'.os.trans h.os, h'.tape.trans h.tape, h'.output.trans h.output, Nat.le_trans h.size h'.size, fun k hk hF =>
    (h'.block k (Nat.lt_of_lt_of_le hk h.size) (fun g => by rcases hG k g with h | h; exact hF h; omega)).trans (h.block k hk hF)⟩
theorem Touch.mono (h : Touch F w w') (hG : ∀ k, F k → G k) : Touch G w w' := ⟨h.os, h.tape, h.output, h.size, fun k hk hn => h.block k hk (fun hf => hn (hG k hf))⟩
theorem Touch.of_below (hb : Below w.heap.size w w') : Touch F w w' := ⟨hb.os, hb.tape, hb.output, hb.size, fun k hk _ => hb.block k hk⟩
theorem Touch.below (h : Touch F w w1) (hb : Below w1.heap.size w1 w') : Touch F w w' := h.trans (Touch.of_below (F := F) hb) fun _ hk => .inl hk
theorem Touch.alloc (h : Touch F w w') (o : Obj) : Touch F w (w'.alloc o) := h.below ((Below.refl _ _).alloc (Nat.le_refl _) _)
theorem Touch.drewN (h : Touch F w w') (n : Nat) : Touch F w (w'.drewN n) := ⟨h.os, h.tape, h.output, h.size, h.block⟩
theorem Touch.setCell (h : Touch F w w') {p : Addr} (hp : F p.block ∨ w.heap.size ≤ p.block) (u : Value) : Touch F w (w'.setCell p u) :=
  h.trans (G := fun k => k = p.block) ⟨rfl, rfl, rfl, by simp [World.setCell], fun k _ hn => Below.heap_setCell w' p u k hn⟩ (fun k hk => by subst hk; exact hp)
theorem Touch.grown (h : Touch F w w1) {row : Option Nat} (hg : w1.grownBy w' row) (hr : ∀ k, row = some k → F k ∨ w.heap.size ≤ k) : Touch F w w' :=
  h.trans (G := fun k => row = some k) ⟨hg.os, hg.tape, hg.output, hg.size, fun k hk hn => hg.block k hk (fun e => hn e.symm)⟩ hr
theorem Touch.toBelow {B : Nat} (h : Touch F w w') (hF : ∀ k, F k → B ≤ k) (hB : B ≤ w.heap.size) : Below B w w' :=
  ⟨h.os, h.tape, h.output, h.size, fun k hk => h.block k (by omega) (fun hf => by have := hF k hf; omega)⟩
theorem Blk.touch {g : Nat} {t : TypeId} {cs : Array Value} (h : Blk w g t cs) (ht : Touch F w w') (hg : ¬ F g) : Blk w' g t cs := (ht.block g h.lt hg).trans h
theorem own_touch {base : Nat} {e : TypeId} {size n : Nat} {v : Value} {xs : List Value} (h : w.ownsRow base e size v n xs) (ht : Touch F w w') (hv : ∀ k, v.ownBlock = some k → ¬ F k) : w'.ownsRow base e size v n xs := by
  refine ⟨h.1, ?_⟩
  rcases h.2 with hn | ⟨g, cap, cur, rfl, hb, hgg, rest⟩
  · exact .inl hn
  · exact .inr ⟨g, cap, cur, rfl, hb, (ht.block g (Array.getElem?_eq_some_iff.1 hgg).1 (hv g rfl)).trans hgg, rest⟩
theorem own_lt {base : Nat} {e : TypeId} {size n k : Nat} {v : Value} {xs : List Value} (h : w.ownsRow base e size v n xs) (hv : v.ownBlock = some k) : k < w.heap.size := by
  rcases h.2 with ⟨rfl, _⟩ | ⟨g, cap, cur, rfl, hb, hgg, rest⟩
  · simp [Value.ownBlock] at hv
  · have : g = k := by simpa [Value.ownBlock] using hv
    subst this
    exact (Array.getElem?_eq_some_iff.1 hgg).1
theorem own_blk_ne {g : Nat} {t : TypeId} {cs : Array Value} {base : Nat} {e : TypeId} {size n : Nat} {v : Value} {xs : List Value} (h : w.ownsRow base e size v n xs) (hg : Blk w g t cs) (hne : e ≠ t) : v.ownBlock ≠ some g := by
  rcases h.2 with ⟨rfl, _⟩ | ⟨g', cap, cur, rfl, _, hh, _⟩
  · simp [Value.ownBlock]
  · intro he
    have : g' = g := by simpa [Value.ownBlock] using he
    subst this
    exact Blk.ne_ (t := e) hh hg hne rfl
end Go.Proofs.YthakcefgbggkcaaDoor

namespace Go.Proofs.YthakcefgbggkcaaDoor
open Go.RowKit

def Vl.cells (v : Vl) : List Value := [.int .i64 v.c, .int .i64 v.s]
def vls (l : List Vl) : List Value := l.flatMap Vl.cells
theorem vls_length (l : List Vl) : (vls l).length = l.length * 2 := by
  induction l with
  | nil => rfl
  | cons t l ih => simp only [vls, List.flatMap_cons, List.length_append] at *; rw [ih]; simp [Vl.cells]; omega
theorem vls_append (l m : List Vl) : vls (l ++ m) = vls l ++ vls m := by simp [vls]
theorem vls_at : ∀ (l : List Vl) (k : Nat) (t : Vl) (j : Nat), l[k]? = some t → j < 2 → (vls l)[k * 2 + j]? = t.cells[j]?
  | [], _, _, _, h, _ => by simp at h
  | x :: l, 0, t, j, h, hj => by
    simp at h
    subst h
    simp only [vls, List.flatMap_cons]
    rw [List.getElem?_append_left (by simp [Vl.cells]; omega)]
    simp
  | x :: l, k + 1, t, j, h, hj => by
    simp at h
    have := vls_at l k t j h hj
    simp only [vls, List.flatMap_cons] at *
    rw [List.getElem?_append_right (by simp [Vl.cells]; omega)]
    rw [← this]
    congr 1
    simp [Vl.cells]; omega
theorem vls_one {l : List Vl} {u : Value} (h : u ∈ vls l) : u.oneCell' = true := by
  simp only [vls, List.mem_flatMap] at h
  obtain ⟨t, _, h⟩ := h
  simp [Vl.cells] at h
  rcases h with rfl | rfl <;> rfl
theorem vls_set : ∀ (l : List Vl) (i : Nat) (t : Vl), i < l.length → vls (l.set i t) = ((vls l).set (i * 2) (.int .i64 t.c)).set (i * 2 + 1) (.int .i64 t.s)
  | [], _, _, h => absurd h (Nat.not_lt_zero _)
  | x :: l, 0, t, _ => by simp [vls, Vl.cells]
  | x :: l, i + 1, t, h => by
    have ih := vls_set l i t (by simpa using h)
    have e1 : vls (x :: l) = x.cells ++ vls l := by simp [vls]
    have e2 : vls ((x :: l).set (i + 1) t) = x.cells ++ vls (l.set i t) := by simp [vls]
    rw [e1, e2, ih]
    have hx : x.cells.length = 2 := rfl
    rw [show (i + 1) * 2 = x.cells.length + i * 2 by rw [hx]; omega, show x.cells.length + i * 2 + 1 = x.cells.length + (i * 2 + 1) by omega]
    rw [List.set_append_right _ _ (by omega), List.set_append_right _ _ (by omega)]
    simp
theorem Blk.vl_at {w : World} {g : Nat} {t : TypeId} {l : List Vl} (h : Blk w g t (vls l).toArray) {k : Nat} {v : Vl} (hk : l[k]? = some v) : w.cell? ⟨g, k * 2, none⟩ = some (.int .i64 v.c) ∧ w.cell? ⟨g, k * 2 + 1, none⟩ = some (.int .i64 v.s) := by
  refine ⟨?_, ?_⟩
  · rw [h.cell]
    have := vls_at l k v 0 hk (by omega)
    simpa [Vl.cells] using this
  · rw [h.cell]
    have := vls_at l k v 1 hk (by omega)
    simpa [Vl.cells] using this
theorem Blk.vl_put {w : World} {g : Nat} {t : TypeId} {l : List Vl} (h : Blk w g t (vls l).toArray) {k : Nat} (hk : k < l.length) (v : Vl) : Blk ((w.setCell ⟨g, k * 2, none⟩ (.int .i64 v.c)).setCell ⟨g, k * 2 + 1, none⟩ (.int .i64 v.s)) g t (vls (l.set k v)).toArray := by
  have := (h.set_ (k * 2) (.int .i64 v.c)).set_ (k * 2 + 1) (.int .i64 v.s)
  rw [vls_set l k v hk]
  simpa using this
section
variable {w : World} {B n : Nat} {A : Option Addr} {l : List Vl}
theorem Reads.len_vls (h : Reads w B 2 A n (vls l)) : l.length = n := by have := h.1; rw [vls_length] at this; omega
theorem Reads.vl_at (h : Reads w B 2 A n (vls l)) {k : Nat} (hk : k < n) :
    ∃ b off v, A = some ⟨b, off, none⟩ ∧ b < B ∧ l[k]? = some v ∧ w.cell? ⟨b, off + k * 2, none⟩ = some (.int .i64 v.c) ∧ w.cell? ⟨b, off + k * 2 + 1, none⟩ = some (.int .i64 v.s) := by
  obtain ⟨b, off, e, hb, hc⟩ := h.2 (by omega)
  have hl : k < l.length := by rw [h.len_vls]; exact hk
  have ht := List.getElem?_eq_getElem hl
  refine ⟨b, off, l[k], e, hb, ht, ?_, ?_⟩
  · have := hc (k * 2 + 0) (.int .i64 l[k].c) (by rw [vls_at l k _ 0 ht (by omega)]; rfl)
    simpa using this
  · have := hc (k * 2 + 1) (.int .i64 l[k].s) (by rw [vls_at l k _ 1 ht (by omega)]; rfl)
    simpa [Nat.add_assoc] using this
end
end Go.Proofs.YthakcefgbggkcaaDoor

namespace Go.Proofs.YthakcefgbggkcaaDoor
open Go.RowKit

section
variable {α : Type} {f : α → List Value} {n : Nat}
theorem flat_length (hf : ∀ a, (f a).length = n) (l : List α) : (l.flatMap f).length = l.length * n := by
  induction l with
  | nil => simp
  | cons t l ih => simp only [List.flatMap_cons, List.length_append, ih, hf, List.length_cons]; rw [Nat.add_mul]; omega
theorem flat_at (hf : ∀ a, (f a).length = n) : ∀ (l : List α) (k : Nat) (t : α) (j : Nat), l[k]? = some t → j < n → (l.flatMap f)[k * n + j]? = (f t)[j]?
  | [], _, _, _, h, _ => by simp at h
  | x :: l, 0, t, j, h, hj => by
    simp at h
    subst h
    simp only [List.flatMap_cons]
    rw [List.getElem?_append_left (by rw [hf]; omega)]
    simp
  | x :: l, k + 1, t, j, h, hj => by
    simp at h
    have := flat_at hf l k t j h hj
    simp only [List.flatMap_cons]
    rw [List.getElem?_append_right (by rw [hf, Nat.add_mul]; omega), ← this, hf]
    congr 1
    rw [Nat.add_mul]; omega
theorem flat_one {P : Value → Prop} (hf : ∀ a, ∀ u ∈ f a, P u) {l : List α} {u : Value} (h : u ∈ l.flatMap f) : P u := by
  obtain ⟨t, _, h⟩ := List.mem_flatMap.1 h
  exact hf t u h
theorem Reads.flat_len {w : World} {B m : Nat} {A : Option Addr} {l : List α} (hf : ∀ a, (f a).length = n) (hn : 0 < n) (h : Reads w B n A m (l.flatMap f)) : l.length = m := by
  have := h.1
  rw [flat_length hf] at this
  exact Nat.eq_of_mul_eq_mul_right hn this
theorem Reads.flat_at {w : World} {B m : Nat} {A : Option Addr} {l : List α} (hf : ∀ a, (f a).length = n) (hn : 0 < n) (h : Reads w B n A m (l.flatMap f)) {k : Nat} (hk : k < m) :
    ∃ b off t, A = some ⟨b, off, none⟩ ∧ b < B ∧ l[k]? = some t ∧ ∀ j u, (f t)[j]? = some u → w.cell? ⟨b, off + k * n + j, none⟩ = some u := by
  obtain ⟨b, off, e, hb, hc⟩ := h.2 (by omega)
  have hl : k < l.length := by rw [h.flat_len hf hn]; exact hk
  have ht := List.getElem?_eq_getElem hl
  refine ⟨b, off, l[k], e, hb, ht, fun j u hu => ?_⟩
  have hj : j < n := by rw [← hf l[k]]; exact (List.getElem?_eq_some_iff.1 hu).1
  have := hc (k * n + j) u (by rw [Go.Proofs.YthakcefgbggkcaaDoor.flat_at hf l k _ j ht hj]; exact hu)
  rw [← Nat.add_assoc] at this
  exact this
end

def Rl.cells (r : Rl) : List Value := [.int .i64 r.k, .int .i64 r.hd, .int .i64 r.a, .int .i64 r.b, .int .i64 r.p, .int .i64 r.o]
def Ar.cells (a : Ar) : List Value := [.int .i64 a.fr, .int .i64 a.tt, .int .i64 a.tm, .int .i64 a.co, .slice a.A a.n a.c]
def It.cells (x : It) : List Value := [.int .i64 x.h, .int .i64 x.f, .int .i64 x.t]
def Cl.cells (x : Cl) : List Value := [.int .i64 x.v.c, .int .i64 x.v.s, .int .i64 x.r, .int .i64 x.a]
def rls (l : List Rl) : List Value := l.flatMap Rl.cells
def ars (l : List Ar) : List Value := l.flatMap Ar.cells
def its (l : List It) : List Value := l.flatMap It.cells
def cls (l : List Cl) : List Value := l.flatMap Cl.cells
section
variable {w : World} {B n : Nat} {A : Option Addr}
theorem Reads.len_rls {l : List Rl} (h : Reads w B 6 A n (rls l)) : l.length = n := Reads.flat_len (n := 6) (f := Rl.cells) (fun _ => rfl) (by decide) h
theorem Reads.len_ars {l : List Ar} (h : Reads w B 5 A n (ars l)) : l.length = n := Reads.flat_len (n := 5) (f := Ar.cells) (fun _ => rfl) (by decide) h
theorem Reads.len_its {l : List It} (h : Reads w B 3 A n (its l)) : l.length = n := Reads.flat_len (n := 3) (f := It.cells) (fun _ => rfl) (by decide) h
theorem Reads.len_cls {l : List Cl} (h : Reads w B 4 A n (cls l)) : l.length = n := Reads.flat_len (n := 4) (f := Cl.cells) (fun _ => rfl) (by decide) h
theorem Reads.rl_at {l : List Rl} (h : Reads w B 6 A n (rls l)) {k : Nat} (hk : k < n) :
    ∃ b off r, A = some ⟨b, off, none⟩ ∧ b < B ∧ l[k]? = some r ∧ w.cell? ⟨b, off + k * 6, none⟩ = some (.int .i64 r.k) ∧ w.cell? ⟨b, off + k * 6 + 1, none⟩ = some (.int .i64 r.hd) ∧ w.cell? ⟨b, off + k * 6 + 2, none⟩ = some (.int .i64 r.a) ∧ w.cell? ⟨b, off + k * 6 + 3, none⟩ = some (.int .i64 r.b) ∧ w.cell? ⟨b, off + k * 6 + 4, none⟩ = some (.int .i64 r.p) ∧ w.cell? ⟨b, off + k * 6 + 5, none⟩ = some (.int .i64 r.o) := by
  obtain ⟨b, off, r, e, hb, hr, hc⟩ := Reads.flat_at (n := 6) (f := Rl.cells) (fun _ => rfl) (by decide) h hk
  exact ⟨b, off, r, e, hb, hr, hc 0 _ rfl, hc 1 _ rfl, hc 2 _ rfl, hc 3 _ rfl, hc 4 _ rfl, hc 5 _ rfl⟩
theorem Reads.ar_at {l : List Ar} (h : Reads w B 5 A n (ars l)) {k : Nat} (hk : k < n) :
    ∃ b off a, A = some ⟨b, off, none⟩ ∧ b < B ∧ l[k]? = some a ∧ w.cell? ⟨b, off + k * 5, none⟩ = some (.int .i64 a.fr) ∧ w.cell? ⟨b, off + k * 5 + 1, none⟩ = some (.int .i64 a.tt) ∧ w.cell? ⟨b, off + k * 5 + 2, none⟩ = some (.int .i64 a.tm) ∧ w.cell? ⟨b, off + k * 5 + 3, none⟩ = some (.int .i64 a.co) ∧ w.cell? ⟨b, off + k * 5 + 4, none⟩ = some (.slice a.A a.n a.c) := by
  obtain ⟨b, off, r, e, hb, hr, hc⟩ := Reads.flat_at (n := 5) (f := Ar.cells) (fun _ => rfl) (by decide) h hk
  exact ⟨b, off, r, e, hb, hr, hc 0 _ rfl, hc 1 _ rfl, hc 2 _ rfl, hc 3 _ rfl, hc 4 _ rfl⟩
theorem Reads.it_at {l : List It} (h : Reads w B 3 A n (its l)) {k : Nat} (hk : k < n) :
    ∃ b off x, A = some ⟨b, off, none⟩ ∧ b < B ∧ l[k]? = some x ∧ w.cell? ⟨b, off + k * 3, none⟩ = some (.int .i64 x.h) ∧ w.cell? ⟨b, off + k * 3 + 1, none⟩ = some (.int .i64 x.f) ∧ w.cell? ⟨b, off + k * 3 + 2, none⟩ = some (.int .i64 x.t) := by
  obtain ⟨b, off, r, e, hb, hr, hc⟩ := Reads.flat_at (n := 3) (f := It.cells) (fun _ => rfl) (by decide) h hk
  exact ⟨b, off, r, e, hb, hr, hc 0 _ rfl, hc 1 _ rfl, hc 2 _ rfl⟩
theorem Reads.cl_at {l : List Cl} (h : Reads w B 4 A n (cls l)) {k : Nat} (hk : k < n) :
    ∃ b off x, A = some ⟨b, off, none⟩ ∧ b < B ∧ l[k]? = some x ∧ w.cell? ⟨b, off + k * 4, none⟩ = some (.int .i64 x.v.c) ∧ w.cell? ⟨b, off + k * 4 + 1, none⟩ = some (.int .i64 x.v.s) ∧ w.cell? ⟨b, off + k * 4 + 2, none⟩ = some (.int .i64 x.r) ∧ w.cell? ⟨b, off + k * 4 + 3, none⟩ = some (.int .i64 x.a) := by
  obtain ⟨b, off, r, e, hb, hr, hc⟩ := Reads.flat_at (n := 4) (f := Cl.cells) (fun _ => rfl) (by decide) h hk
  exact ⟨b, off, r, e, hb, hr, hc 0 _ rfl, hc 1 _ rfl, hc 2 _ rfl, hc 3 _ rfl⟩
end

/-- How many spans begin before state s. -/
def tri (S : Nat) : Nat → Nat
  | 0 => 0
  | s + 1 => tri S s + (S - s)
/-- The place of a span among all spans. -/
def cix (S s t : Nat) : Nat := tri S s + (t - s)
theorem tri_sq (S : Nat) : ∀ s, s ≤ S → 2 * tri S s + s * (s - 1) = 2 * (s * S)
  | 0, _ => by simp [tri]
  | s + 1, h => by
    have ih := tri_sq S s (by omega)
    simp only [tri, Nat.add_sub_cancel]
    have e1 : (s + 1) * S = s * S + S := Nat.succ_mul s S
    have e2 : (s + 1) * s = s * (s - 1) + 2 * s := by
      cases s with
      | zero => rfl
      | succ s =>
        simp only [Nat.add_sub_cancel]
        rw [Nat.add_mul (s + 1) 1 (s + 1), Nat.mul_add (s + 1) s 1]
        omega
    rw [e1, e2]
    generalize s * S = x at *
    generalize s * (s - 1) = y at *
    omega
theorem tri_mono (S : Nat) {s s' : Nat} (h : s ≤ s') : tri S s ≤ tri S s' := by
  induction h with
  | refl => exact Nat.le_refl _
  | step _ ih => exact Nat.le_trans ih (Nat.le_add_right _ _)
theorem cix_lt {S s t : Nat} (h1 : s ≤ t) (h2 : t < S) : cix S s t < tri S S := by
  have := tri_mono S (s := s + 1) (s' := S) (by omega)
  simp only [tri] at this
  unfold cix
  omega
theorem cix_inj {S s t s' t' : Nat} (h1 : s ≤ t) (h2 : t < S) (h1' : s' ≤ t') (h2' : t' < S) (h : cix S s t = cix S s' t') : s = s' ∧ t = t' := by
  unfold cix at h
  rcases Nat.lt_trichotomy s s' with hl | rfl | hl
  · have := tri_mono S (s := s + 1) (s' := s') hl
    simp only [tri] at this
    omega
  · omega
  · have := tri_mono S (s := s' + 1) (s' := s) hl
    simp only [tri] at this
    omega
theorem tri_ge (S : Nat) : ∀ s, s ≤ S → s ≤ tri S s
  | 0, _ => Nat.zero_le _
  | s + 1, h => by
    have := tri_ge S s (by omega)
    simp only [tri]
    omega
theorem cix_ge {S s t : Nat} (h1 : s ≤ t) (h2 : t < S) : t ≤ cix S s t := by
  have := tri_ge S s (by omega)
  unfold cix
  omega
theorem cix_ge_S {S s t : Nat} (h0 : 0 < s) (h1 : s ≤ t) (_h2 : t < S) : S ≤ cix S s t := by
  have := tri_mono S (s := 1) (s' := s) h0
  simp only [tri] at this
  unfold cix
  omega
theorem tri_le (S s : Nat) : tri S s ≤ s * S := by
  induction s with
  | zero => simp [tri]
  | succ s ih =>
    simp only [tri]
    have e1 : (s + 1) * S = s * S + S := Nat.succ_mul s S
    omega
/-- The cell of an item in a chart with N nonterminals and S states. -/
def atC (N S : Nat) (cs : List Cl) (x : It) : Cl :=
  if (0 ≤ x.h ∧ x.h < N) ∧ 0 ≤ x.f ∧ x.f ≤ x.t ∧ x.t < S then (cs[cix S x.f.toNat x.t.toNat * N + x.h.toNat]?).getD cnone else cnone
/-- The package-level variable holds the cell of what has no derivation. -/
def NoneAt (w : World) : Prop := w.cell? ⟨0, 0, none⟩ = some (.int .i64 1099511627776) ∧ w.cell? ⟨0, 1, none⟩ = some (.int .i64 0) ∧ w.cell? ⟨0, 2, none⟩ = some (.int .i64 (-1)) ∧ w.cell? ⟨0, 3, none⟩ = some (.int .i64 0)
theorem NoneAt.lt {w : World} (h : NoneAt w) : 0 < w.heap.size := World.block_lt_of_cell? w _ h.1
theorem NoneAt.below {w w' : World} {B : Nat} (h : NoneAt w) (hb : Below B w w') (hB : 0 < B) : NoneAt w' :=
  ⟨(hb.cell (p := ⟨0, 0, none⟩) hB).trans h.1, (hb.cell (p := ⟨0, 1, none⟩) hB).trans h.2.1, (hb.cell (p := ⟨0, 2, none⟩) hB).trans h.2.2.1, (hb.cell (p := ⟨0, 3, none⟩) hB).trans h.2.2.2⟩
theorem NoneAt.next {w w' : World} (h : NoneAt w) (hb : Below w.heap.size w w') : NoneAt w' := h.below hb h.lt
end Go.Proofs.YthakcefgbggkcaaDoor

namespace Go.Proofs.YthakcefgbggkcaaDoor
open Go.RowKit Go.ChangeShapes Go.WideShapes Go.ChangeAt Go.Joins Go.Deep
set_option maxRecDepth 100000

theorem cells_vl' : Tryd.prog.cellsOf 45 = 2 := by kernel_rfl
theorem cells_cl : Tryd.prog.cellsOf 47 = 4 := by kernel_rfl
theorem cells_ch : Tryd.prog.cellsOf 34 = 3 := by kernel_rfl
theorem cells_it : Tryd.prog.cellsOf 61 = 3 := by kernel_rfl
section
variable {H : Type} {enc : TypeId × Value → H}
theorem trod_vl {w : World} {base : Nat} {spare : Nat → Bool} {held : Bool} {fuel : Nat} {c0 c1 : Value} {x : DataW H × List MemPlace} (h : DataW.trod enc Tryd.prog w base spare held fuel 45 [c0, c1] = some x) :
    ∃ v : Vl, c0 = .int .i64 v.c ∧ c1 = .int .i64 v.s ∧ x.1 = .agg [.lit (.int .i64 v.c), .lit (.int .i64 v.s)] := by
  obtain ⟨ys, n, _, hx, _, hyl, hf⟩ := DataW.trod_struct Tryd.underlying45 h
  have g0 : DataW.trod enc Tryd.prog w base spare held n 3 (List.take (Tryd.prog.cellsOf 3) [c0, c1]) = ys[0]? := hf 0 _ rfl
  have g1 : DataW.trod enc Tryd.prog w base spare held n 3 (List.take (Tryd.prog.cellsOf 3) [c1]) = ys[1]? := hf 1 _ rfl
  match ys, hyl with
  | [y0, y1], _ =>
    simp only [cells_int, List.take_succ_cons, List.take_zero, List.getElem?_cons_zero, List.getElem?_cons_succ] at g0 g1
    obtain ⟨a, e0, f0, _⟩ := DataW.trod_int Tryd.underlying3 g0
    obtain ⟨b, e1, f1, _⟩ := DataW.trod_int Tryd.underlying3 g1
    simp at e0 e1
    refine ⟨⟨a, b⟩, e0, e1, ?_⟩
    rw [hx, f0, f1]
    rfl
theorem trod_cl {w : World} {base : Nat} {spare : Nat → Bool} {held : Bool} {fuel : Nat} {cs : List Value} {x : DataW H × List MemPlace} (h : DataW.trod enc Tryd.prog w base spare held fuel 47 cs = some x) :
    ∃ e : Cl, cs = e.cells ∧ x.1 = .agg [.agg [.lit (.int .i64 e.v.c), .lit (.int .i64 e.v.s)], .lit (.int .i64 e.r), .lit (.int .i64 e.a)] := by
  obtain ⟨ys, n, _, hx, hlen, hyl, hf⟩ := DataW.trod_struct Tryd.underlying47 h
  rw [cells_cl] at hlen
  match cs, hlen with
  | [c0, c1, c2, c3], _ =>
    have g0 : DataW.trod enc Tryd.prog w base spare held n 45 (List.take (Tryd.prog.cellsOf 45) [c0, c1, c2, c3]) = ys[0]? := hf 0 _ rfl
    have g1 : DataW.trod enc Tryd.prog w base spare held n 3 (List.take (Tryd.prog.cellsOf 3) [c2, c3]) = ys[1]? := hf 1 _ rfl
    have g2 : DataW.trod enc Tryd.prog w base spare held n 3 (List.take (Tryd.prog.cellsOf 3) [c3]) = ys[2]? := hf 2 _ rfl
    match ys, hyl with
    | [y0, y1, y2], _ =>
      simp only [cells_int, cells_vl', List.take_succ_cons, List.take_zero, List.getElem?_cons_zero, List.getElem?_cons_succ] at g0 g1 g2
      obtain ⟨v, e0, e1, f0⟩ := trod_vl g0
      obtain ⟨a, e2, f1, _⟩ := DataW.trod_int Tryd.underlying3 g1
      obtain ⟨b, e3, f2, _⟩ := DataW.trod_int Tryd.underlying3 g2
      simp at e2 e3
      subst e0 e1 e2 e3
      refine ⟨⟨v, a, b⟩, rfl, ?_⟩
      rw [hx]
      simp [f0, f1, f2]
end
section
variable {H : Type} {enc : TypeId × Value → H}
theorem open_cls {W : World} {sp : Nat → Bool} {held : Bool} {fuel : Nat} {v0 : Value} {y : DataW H × List MemPlace} (h : DataW.trod enc Tryd.prog W 0 sp held fuel 32 [v0] = some y) :
    ∃ (A : Option Addr) (c : Nat) (cs : List Cl), v0 = .slice A cs.length c ∧ Reads W W.heap.size 4 A cs.length (cls cs) ∧ cs.length ≤ c ∧ c ≤ maxLen := by
  have hln : ∀ l : List Cl, (cls l).length = l.length * 4 := fun l => flat_length (n := 4) (f := Cl.cells) (fun _ => rfl) l
  rcases open_slice Tryd.underlying32 h with ⟨hcs, _⟩ | ⟨a, len, cap, m, n, D, Pl, hcs, _, hl, hm, hmm, hx, hi⟩
  · simp at hcs
    subst hcs
    exact ⟨none, 0, [], rfl, Reads.nil_, Nat.le_refl _, by unfold maxLen; omega⟩
  · simp at hcs
    subst hcs
    have hml : len ≤ m := by rw [hmm]; split <;> omega
    have each : ∀ i : Fin len, ∃ e : Cl, ∀ j, j < 4 → W.cell? (a.add (i * 4 + j)) = e.cells[j]? := by
      intro i
      obtain ⟨cs', hc, ht'⟩ := hi i.1 (by have := i.2; omega)
      rw [cells_cl] at hc
      obtain ⟨_, hcl, hat⟩ := World.cells?_some hc
      obtain ⟨e, he, _⟩ := trod_cl ht'
      refine ⟨e, fun j hj => ?_⟩
      have := hat j hj
      rw [Go.Deep.add_add] at this
      rw [this, he]
    let q : Fin len → Cl := fun i => Classical.choose (each i)
    have hq := fun i => Classical.choose_spec (each i)
    refine ⟨some a, cap, List.ofFn q, by simp, reads_of (by omega) (hln _) ?_, by simpa using hl, hm⟩
    intro j u hu
    have hj : j < len * 4 := by
      have := (List.getElem?_eq_some_iff.1 hu).1
      rw [hln] at this
      simpa using this
    have hdiv : j / 4 < len := by omega
    have ht : (List.ofFn q)[j / 4]? = some (q ⟨j / 4, hdiv⟩) := by rw [List.getElem?_ofFn, dif_pos hdiv]
    have h4 := Go.Proofs.YthakcefgbggkcaaDoor.flat_at (f := Cl.cells) (n := 4) (fun _ => rfl) (List.ofFn q) (j / 4) _ (j % 4) ht (Nat.mod_lt _ (by omega))
    rw [show j / 4 * 4 + j % 4 = j by omega] at h4
    have hu' : (List.flatMap Cl.cells (List.ofFn q))[j]? = some u := hu
    rw [hu'] at h4
    have h5 := (hq ⟨j / 4, hdiv⟩) (j % 4) (Nat.mod_lt _ (by omega))
    simp only at h5
    rw [show j / 4 * 4 + j % 4 = j by omega] at h5
    rw [h5]
    exact h4.symm
theorem open_chart {W : World} {r : Reach} {b0 : Nat} {v : Value} {d : DataW H} {p : List MemPlace} (hv : Value.okWide Tryd.prog W r b0 34 v) (h : DataW.Trod enc Tryd.prog W 0 (fun _ => true) true 34 v d p) :
    ∃ (N S : Int) (A : Option Addr) (c : Nat) (cs : List Cl), v = .agg #[.int .i64 N, .int .i64 S, .slice A cs.length c] ∧ Reads W W.heap.size 4 A cs.length (cls cs) := by
  obtain ⟨v0, v1, v2, y0, y1, y2, n, rfl, _, _, h0, h1, h2⟩ := open_agg3 Tryd.underlying34 (by kernel_rfl) cells_ch hv h
  obtain ⟨a, e0, _, _⟩ := DataW.trod_int Tryd.underlying3 h0
  obtain ⟨b, e1, _, _⟩ := DataW.trod_int Tryd.underlying3 h1
  obtain ⟨A, c, cs, e2, hr, _, _⟩ := open_cls h2
  simp at e0 e1
  subst e0 e1 e2
  exact ⟨a, b, A, c, cs, rfl, hr⟩
theorem open_item {W : World} {r : Reach} {b0 : Nat} {v : Value} {d : DataW H} {p : List MemPlace} (hv : Value.okWide Tryd.prog W r b0 61 v) (h : DataW.Trod enc Tryd.prog W 0 (fun _ => true) true 61 v d p) :
    ∃ x : It, v = .agg #[.int .i64 x.h, .int .i64 x.f, .int .i64 x.t] := by
  obtain ⟨v0, v1, v2, y0, y1, y2, n, rfl, _, _, h0, h1, h2⟩ := open_agg3 Tryd.underlying61 (by kernel_rfl) cells_it hv h
  obtain ⟨a, e0, _, _⟩ := DataW.trod_int Tryd.underlying3 h0
  obtain ⟨b, e1, _, _⟩ := DataW.trod_int Tryd.underlying3 h1
  obtain ⟨c, e2, _, _⟩ := DataW.trod_int Tryd.underlying3 h2
  simp at e0 e1 e2
  subst e0 e1 e2
  exact ⟨⟨a, b, c⟩, rfl⟩
end
/-- The listed variable's cells. -/
theorem none_of_laid {w : World} (h : laidMet Tryd.prog [("emendate/chart.none", Rows.laid_emendate_chart_none)] w) : NoneAt w := by
  obtain ⟨ps, ⟨g, t, cs, fuel, p, q, h1, h2, h3, h4, _, _⟩, _, _⟩ := h
  have hg : Tryd.prog.globalNamed "emendate/chart.none" = some 0 := by kernel_rfl
  obtain rfl := Option.some.inj (hg.symm.trans h1)
  have ht : (Tryd.prog.globals[0]?).map (·.type) = some 47 := by kernel_rfl
  obtain rfl := Option.some.inj (ht.symm.trans h2)
  obtain ⟨e, he, hd⟩ := trod_cl h4
  have hc : ∀ i, w.cell? ⟨0, i, none⟩ = e.cells[i]? := fun i => by
    rw [World.var?_cell hg h3 i, ← Array.getElem?_toList, he]
  have e1 : e.v.c = 1099511627776 ∧ e.v.s = 0 ∧ e.r = -1 ∧ e.a = 0 := by
    simp only [Rows.laid_emendate_chart_none, DataW.agg.injEq, List.cons.injEq, DataW.lit.injEq, Lit.int.injEq, true_and, and_true] at hd
    omega
  obtain ⟨a0, a1, a2, a3⟩ := e1
  refine ⟨?_, ?_, ?_, ?_⟩
  · rw [hc]; simp [Cl.cells, a0]
  · rw [hc]; simp [Cl.cells, a1]
  · rw [hc]; simp [Cl.cells, a2]
  · rw [hc]; simp [Cl.cells, a3]
end Go.Proofs.YthakcefgbggkcaaDoor

namespace Go.Proofs.YthakcefgbggkcaaDoor

section
variable {cs l : List Cl} {o i : Nat}
/-- A list with a piece of it written over. -/
def ow (cs : List Cl) (o : Nat) (l : List Cl) : List Cl := cs.take o ++ l ++ cs.drop (o + l.length)
theorem ow_len (h : o + l.length ≤ cs.length) : (ow cs o l).length = cs.length := by
  unfold ow
  simp only [List.length_append, List.length_take, List.length_drop]
  omega
theorem ow_in (h : o + l.length ≤ cs.length) (hi : i < l.length) : (ow cs o l)[o + i]? = l[i]? := by
  unfold ow
  rw [List.append_assoc, List.getElem?_append_right (by simp; omega), List.getElem?_append_left (by simp; omega)]
  congr 1
  simp
  omega
theorem ow_out (h : o + l.length ≤ cs.length) (hi : i < o ∨ o + l.length ≤ i) : (ow cs o l)[i]? = cs[i]? := by
  unfold ow
  rcases hi with hi | hi
  · rw [List.append_assoc, List.getElem?_append_left (by simp; omega), List.getElem?_take, if_pos hi]
  · rw [List.getElem?_append_right (by simp; omega), List.getElem?_drop]
    congr 1
    simp
    omega
theorem ow_mem {c : Cl} (h : c ∈ ow cs o l) : c ∈ cs ∨ c ∈ l := by
  unfold ow at h
  simp only [List.mem_append] at h
  rcases h with (h | h) | h
  · exact .inl (List.mem_of_mem_take h)
  · exact .inr h
  · exact .inl (List.mem_of_mem_drop h)
end

/-- The values that a chart's cells hold. -/
def CC (N S : Nat) (cs : List Cl) (x : It) : Vl := (atC N S cs x).v
theorem atC_nrm {N S : Nat} {cs : List Cl} (h : ∀ c ∈ cs, Nrm c.v) (x : It) : Nrm (atC N S cs x).v := by
  unfold atC
  split
  · cases hc : cs[cix S x.f.toNat x.t.toNat * N + x.h.toNat]? with
    | none => exact Nrm.top
    | some c => exact h c (List.mem_of_getElem? hc)
  · exact Nrm.top
/-- The cells of a span are those of its least values. -/
def SpanIs (R : List Rl) (L : List Ar) (N S s t : Nat) (cs : List Cl) : Prop := ∃ U, SSol R L s t (CC N S cs) U ∧ ∀ j < N, cs[cix S s t * N + j]? = some (cel R L s t (CC N S cs) U j)
/-- The spans shorter than d, and those of length d from states before f, are done. -/
structure Grid (R : List Rl) (L : List Ar) (N S d f : Nat) (cs : List Cl) : Prop where
  len : cs.length = tri S S * N
  nrm : ∀ c ∈ cs, Nrm c.v
  done : ∀ s t, s ≤ t → t < S → (t - s < d ∨ (t - s = d ∧ s < f)) → SpanIs R L N S s t cs
section
variable {R : List Rl} {L : List Ar} {N S d f s t s0 t0 : Nat} {cs cs' l : List Cl} {U : Nat → Vl}
theorem far_idx {N c c0 j : Nat} (hj : j < N) (h : c ≠ c0) : c * N + j < c0 * N ∨ c0 * N + N ≤ c * N + j := by
  rcases Nat.lt_or_ge c c0 with h1 | h1
  · left
    have := Nat.mul_le_mul_right N (show c + 1 ≤ c0 from h1)
    rw [Nat.add_mul] at this
    omega
  · right
    have := Nat.mul_le_mul_right N (show c0 + 1 ≤ c by omega)
    rw [Nat.add_mul] at this
    omega
theorem cix_room (h1 : s ≤ t) (h2 : t < S) : cix S s t * N + N ≤ tri S S * N := by
  have := Nat.mul_le_mul_right N (show cix S s t + 1 ≤ tri S S from cix_lt h1 h2)
  rw [Nat.add_mul] at this
  omega
theorem ow_agree (hl : cs.length = tri S S * N) (hll : l.length = N) (h0 : s0 ≤ t0) (h1 : t0 < S) (hd : t - s ≤ t0 - s0) (hst : s ≤ t) : AgreeIn N s t (CC N S cs) (CC N S (ow cs (cix S s0 t0 * N) l)) := by
  intro x hx hf hft ht hno
  unfold CC atC
  by_cases hc : (0 ≤ x.h ∧ x.h < N) ∧ 0 ≤ x.f ∧ x.f ≤ x.t ∧ x.t < S
  · rw [if_pos hc, if_pos hc]
    have hroom := cix_room (N := N) h0 h1
    have hne : cix S x.f.toNat x.t.toNat ≠ cix S s0 t0 := fun e => by
      have := cix_inj (by omega) (by omega) h0 h1 e
      have : x.own s t = true := own_iff.2 ⟨by omega, by omega⟩
      rw [this] at hno
      cases hno
    rw [ow_out (by rw [hll]; omega) (by rw [hll]; exact far_idx (by omega) hne)]
  · rw [if_neg hc, if_neg hc]
theorem cel_nrm {C : It → Vl} {h : Nat} (hU : ∀ h, Nrm (U h)) : Nrm (cel R L s t C U h).v := by
  unfold cel
  split
  · split
    · exact hU h
    · exact Nrm.top
  · exact Nrm.top
theorem SpanIs.agree (hR : ∀ r ∈ R, r.Ok N) (hst : s ≤ t) (h : SpanIs R L N S s t cs) (ha : AgreeIn N s t (CC N S cs) (CC N S cs')) (hc : ∀ j < N, cs'[cix S s t * N + j]? = cs[cix S s t * N + j]?) : SpanIs R L N S s t cs' := by
  obtain ⟨U, h1, h2⟩ := h
  refine ⟨U, h1.agree hR hst ha, fun j hj => ?_⟩
  rw [hc j hj, h2 j hj, cel_agree hR hst ha]
theorem Grid.step (hR : ∀ r ∈ R, r.Ok N) (h : Grid R L N S d f cs) (hf : f + d < S) (hU : SSol R L f (f + d) (CC N S cs) U) : Grid R L N S d (f + 1) (ow cs (cix S f (f + d) * N) ((List.range N).map (cel R L f (f + d) (CC N S cs) U))) := by
  have hll : ((List.range N).map (cel R L f (f + d) (CC N S cs) U)).length = N := by simp
  have hroom := cix_room (N := N) (s := f) (t := f + d) (by omega) hf
  have hfit : cix S f (f + d) * N + ((List.range N).map (cel R L f (f + d) (CC N S cs) U)).length ≤ cs.length := by rw [hll, h.len]; exact hroom
  refine ⟨by rw [ow_len hfit]; exact h.len, fun c hc => ?_, fun s t hst hS hdone => ?_⟩
  · rcases ow_mem hc with hc | hc
    · exact h.nrm c hc
    · obtain ⟨j, _, rfl⟩ := List.mem_map.1 hc
      exact cel_nrm hU.nrm
  · have ha : AgreeIn N s t (CC N S cs) (CC N S (ow cs (cix S f (f + d) * N) ((List.range N).map (cel R L f (f + d) (CC N S cs) U)))) := ow_agree h.len hll (by omega) hf (by omega) hst
    by_cases he : s = f ∧ t = f + d
    · obtain ⟨rfl, rfl⟩ := he
      refine ⟨U, hU.agree hR hst ha, fun j hj => ?_⟩
      rw [ow_in hfit (by rw [hll]; exact hj), List.getElem?_map, List.getElem?_range hj, ← cel_agree hR hst ha]
      rfl
    · refine (h.done s t hst hS (by omega)).agree hR hst ha fun j hj => ?_
      rw [ow_out hfit]
      rw [hll]
      exact far_idx hj (fun e => he (cix_inj hst hS (by omega) hf e))
theorem Grid.up (h : Grid R L N S d f cs) (hf : S ≤ f + d) : Grid R L N S (d + 1) 0 cs :=
  ⟨h.len, h.nrm, fun s t hst hS hd => h.done s t hst hS (by omega)⟩
theorem Grid.start (hl : cs.length = tri S S * N) (hn : ∀ c ∈ cs, Nrm c.v) : Grid R L N S 0 0 cs := ⟨hl, hn, fun s t _ _ h => by omega⟩
theorem cix_at (S : Nat) : ∀ {c n : Nat}, n ≤ S → c < tri S n → ∃ s t, s ≤ t ∧ t < S ∧ cix S s t = c
  | c, 0, _, h => by simp [tri] at h
  | c, n + 1, hn, h => by
    simp only [tri] at h
    rcases Nat.lt_or_ge c (tri S n) with h1 | h1
    · exact cix_at S (by omega) h1
    · exact ⟨n, n + (c - tri S n), by omega, by omega, by unfold cix; omega⟩
/-- A chart: all its spans are done. -/
def Chart (R : List Rl) (L : List Ar) (N S : Nat) (cs : List Cl) : Prop := Grid R L N S S 0 cs
theorem Chart.span (h : Chart R L N S cs) (hst : s ≤ t) (hS : t < S) : SpanIs R L N S s t cs := h.done s t hst hS (.inl (by omega))
/-- The charts of two lattices agree on a span where the spans inside agree. -/
theorem Chart.uniq (hR : ∀ r ∈ R, r.Ok N) (h : Chart R L N S cs) (h' : Chart R L N S cs') : cs = cs' := by
  have key : ∀ d s t, t - s < d → s ≤ t → t < S → ∀ j < N, cs[cix S s t * N + j]? = cs'[cix S s t * N + j]? := by
    intro d
    induction d with
    | zero => intro s t h; omega
    | succ d ih =>
      intro s t hd hst hS j hj
      have ha : AgreeIn N s t (CC N S cs) (CC N S cs') := by
        intro x hx hf hft ht hno
        unfold CC atC
        split
        · rename_i hc
          have hne : ¬ (x.f = s ∧ x.t = t) := fun e => by rw [own_iff.2 e] at hno; cases hno
          have := ih x.f.toNat x.t.toNat (by omega) (by omega) (by omega) x.h.toNat (by omega)
          rw [this]
        · rfl
      obtain ⟨U, h1, h2⟩ := h.span hst hS
      obtain ⟨U', h1', h2'⟩ := h'.span hst hS
      have e : U = U' := (h1.agree hR hst ha).uniq h1'
      rw [h2 j hj, h2' j hj, e, cel_agree hR hst ha]
  apply List.ext_getElem?
  intro i
  rcases Nat.lt_or_ge i (tri S S * N) with hi | hi
  · have hN : 0 < N := by
      rcases Nat.eq_zero_or_pos N with e | e
      · rw [e] at hi; simp at hi
      · exact e
    have hc : i / N < tri S S := Nat.div_lt_of_lt_mul (by rw [Nat.mul_comm]; exact hi)
    obtain ⟨s, t, hst, hS, e⟩ := cix_at S (Nat.le_refl S) hc
    have := key (t - s + 1) s t (by omega) hst hS (i % N) (Nat.mod_lt _ hN)
    rw [e, Nat.mul_comm, Nat.div_add_mod] at this
    exact this
  · rw [List.getElem?_eq_none (by rw [h.len]; exact hi), List.getElem?_eq_none (by rw [h'.len]; exact hi)]
end
end Go.Proofs.YthakcefgbggkcaaDoor

namespace Go.Proofs.YthakcefgbggkcaaDoor

section
variable {α : Type}
def swp (l : List α) (i j : Nat) : List α :=
  match l[i]?, l[j]? with
  | some a, some b => (l.set i b).set j a
  | _, _ => l
theorem swp_def {l : List α} {i j : Nat} {a b : α} (ha : l[i]? = some a) (hb : l[j]? = some b) : swp l i j = (l.set i b).set j a := by simp [swp, ha, hb]
theorem swp_length (l : List α) (i j : Nat) : (swp l i j).length = l.length := by unfold swp; split <;> simp
theorem swp_at {l : List α} {i j : Nat} (hi : i < l.length) (hj : j < l.length) (k : Nat) : (swp l i j)[k]? = if k = j then l[i]? else if k = i then l[j]? else l[k]? := by
  rw [swp_def (List.getElem?_eq_getElem hi) (List.getElem?_eq_getElem hj), List.getElem?_set, List.getElem?_set]
  simp only [List.length_set]
  by_cases h1 : j = k
  · subst h1; rw [if_pos rfl, if_pos rfl, if_pos hj, List.getElem?_eq_getElem hi]
  · rw [if_neg h1, if_neg (show ¬ k = j from fun e => h1 e.symm)]
    by_cases h2 : i = k
    · subst h2; rw [if_pos rfl, if_pos rfl, if_pos hi, List.getElem?_eq_getElem hj]
    · rw [if_neg h2, if_neg (show ¬ k = i from fun e => h2 e.symm)]
theorem set_self {l : List α} {i : Nat} {a : α} (h : l[i]? = some a) : l.set i a = l := by
  apply List.ext_getElem?
  intro k
  rw [List.getElem?_set]
  split
  · rename_i e; subst e; rw [h]; simp [(List.getElem?_eq_some_iff.1 h).1]
  · rfl
theorem set_perm' : ∀ {l : List α} {i : Nat} (_ : i < l.length) (a : α), (l.set i a).Perm (a :: l.eraseIdx i)
  | [], _, h, _ => absurd h (Nat.not_lt_zero _)
  | _ :: _, 0, _, _ => List.Perm.refl _
  | x :: l, i + 1, h, a => ((set_perm' (l := l) (i := i) (by simpa using h) a).cons x).trans (List.Perm.swap a x _)
theorem get_perm' {l : List α} {i : Nat} {a : α} (h : l[i]? = some a) : l.Perm (a :: l.eraseIdx i) := by
  have := set_perm' (List.getElem?_eq_some_iff.1 h).1 a
  rwa [set_self h] at this
theorem swp_perm {l : List α} (i j : Nat) : (swp l i j).Perm l := by
  cases ha : l[i]? with
  | none => simp [swp, ha]
  | some a =>
    cases hb : l[j]? with
    | none => simp [swp, ha, hb]
    | some b =>
      rw [swp_def ha hb]
      by_cases e : i = j
      · subst e
        rw [ha] at hb
        injection hb with hb
        subst hb
        rw [set_self ha, set_self ha]
      · have hil := (List.getElem?_eq_some_iff.1 ha).1
        have hjl := (List.getElem?_eq_some_iff.1 hb).1
        have h1 : (l.set i b)[j]? = some b := by rw [List.getElem?_set, if_neg e, hb]
        have h2 := get_perm' h1
        have h3 := set_perm' (l := l.set i b) (i := j) (by simpa using hjl) a
        have h4 := (h2.symm.trans (set_perm' hil b)).cons_inv
        exact h3.trans ((h4.cons a).trans (get_perm' ha).symm)

/-- An order by 'comes before'. -/
structure Ord (bf : α → α → Bool) : Prop where
  trans : ∀ {a b c : α}, bf b a = false → bf c b = false → bf c a = false
  asym : ∀ {a b : α}, bf a b = true → bf b a = false
variable {bf : α → α → Bool}
theorem Ord.irr (O : Ord bf) (a : α) : bf a a = false := by
  cases h : bf a a
  · rfl
  · exact h ▸ O.asym h
/-- What stands at i does not come after what stands at j. -/
def LeAt (bf : α → α → Bool) (l : List α) (i j : Nat) : Prop := ∀ x y, l[i]? = some x → l[j]? = some y → bf y x = false
theorem LeAt.trans (O : Ord bf) {l : List α} {i j k : Nat} (hj : j < l.length) (h1 : LeAt bf l i j) (h2 : LeAt bf l j k) : LeAt bf l i k := fun x y hx hy =>
  O.trans (h1 x _ hx (List.getElem?_eq_getElem hj)) (h2 _ y (List.getElem?_eq_getElem hj) hy)
theorem LeAt.refl (O : Ord bf) (l : List α) (i : Nat) : LeAt bf l i i := fun x y hx hy => by
  rw [hx] at hy
  injection hy with hy
  subst hy
  exact O.irr x
theorem LeAt.of_eq {l l' : List α} {i j i' j' : Nat} (h : LeAt bf l i j) (h1 : l'[i']? = l[i]?) (h2 : l'[j']? = l[j]?) : LeAt bf l' i' j' := fun x y hx hy => h x y (h1 ▸ hx) (h2 ▸ hy)
def HeapOrd (bf : α → α → Bool) (l : List α) : Prop := ∀ k, 0 < k → k < l.length → LeAt bf l ((k - 1) / 2) k
/-- In order but for what stands at i. -/
structure Both (bf : α → α → Bool) (l : List α) (i : Nat) : Prop where
  far : ∀ k, 0 < k → k < l.length → k ≠ i → (k - 1) / 2 ≠ i → LeAt bf l ((k - 1) / 2) k
  over : ∀ k, 0 < k → k < l.length → (k - 1) / 2 = i → 0 < i → LeAt bf l ((i - 1) / 2) k
def Kids (bf : α → α → Bool) (l : List α) (i : Nat) : Prop := ∀ k, 0 < k → k < l.length → (k - 1) / 2 = i → LeAt bf l i k
structure Down (bf : α → α → Bool) (l : List α) (i : Nat) : Prop where
  both : Both bf l i
  par : 0 < i → LeAt bf l ((i - 1) / 2) i
theorem Down.heap {l : List α} {i : Nat} (h : Down bf l i) (hk : Kids bf l i) : HeapOrd bf l := fun k h0 hl => by
  by_cases e1 : (k - 1) / 2 = i
  · rw [e1]; exact hk k h0 hl e1
  · by_cases e2 : k = i
    · subst e2; exact h.par h0
    · exact h.both.far k h0 hl e2 e1
theorem HeapOrd.both (O : Ord bf) {l : List α} (h : HeapOrd bf l) {i : Nat} (hi : i < l.length) : Both bf l i :=
  ⟨fun k h0 hl _ _ => h k h0 hl, fun k h0 hl e hi0 => (h i hi0 hi).trans O hi (by have := h k h0 hl; rwa [e] at this)⟩
theorem HeapOrd.root (O : Ord bf) {l : List α} (h : HeapOrd bf l) : ∀ (k : Nat), k < l.length → LeAt bf l 0 k := by
  intro k
  induction k using Nat.strongRecOn with
  | ind k ih =>
    intro hk
    rcases Nat.eq_zero_or_pos k with e | h0
    · subst e; exact LeAt.refl O l 0
    · have hp : (k - 1) / 2 < k := by omega
      exact (ih _ hp (by omega)).trans O (by omega) (h k h0 hk)

theorem Both.up (O : Ord bf) {l : List α} {i : Nat} (h : Both bf l i) (h0 : 0 < i) (hi : i < l.length) {x y : α} (hx : l[i]? = some x) (hy : l[(i - 1) / 2]? = some y) (hxy : bf x y = true) :
    Both bf (swp l i ((i - 1) / 2)) ((i - 1) / 2) ∧ Kids bf (swp l i ((i - 1) / 2)) ((i - 1) / 2) := by
  obtain ⟨p, hp⟩ : ∃ p, (i - 1) / 2 = p := ⟨_, rfl⟩
  rw [hp] at hy ⊢
  have hpi : p < i := by omega
  have hpl : p < l.length := by omega
  have at_ := swp_at hi hpl
  have hyx := O.asym hxy
  refine ⟨⟨fun k k0 kl kp kpp => ?_, fun k k0 kl kpp p0 => ?_⟩, fun k k0 kl kpp => ?_⟩ <;> rw [swp_length] at kl
  · have ki : k ≠ i := fun e => kpp (by rw [e, hp])
    by_cases e : (k - 1) / 2 = i
    · refine (h.over k k0 kl e h0).of_eq ?_ ?_
      · rw [at_, e, if_neg (by omega), if_pos rfl, hp]
      · rw [at_, if_neg kp, if_neg ki]
    · refine (h.far k k0 kl ki e).of_eq ?_ ?_
      · rw [at_, if_neg kpp, if_neg e]
      · rw [at_, if_neg kp, if_neg ki]
  · have hpp : LeAt bf l ((p - 1) / 2) p := h.far p p0 hpl (by omega) (by omega)
    by_cases e : k = i
    · refine hpp.of_eq ?_ ?_
      · rw [at_, if_neg (by omega), if_neg (by omega)]
      · rw [at_, if_neg (by omega), if_pos e]
    · have h2 : LeAt bf l p k := by have := h.far k k0 kl e (by omega); rwa [kpp] at this
      refine (hpp.trans O hpl h2).of_eq ?_ ?_
      · rw [at_, if_neg (by omega), if_neg (by omega)]
      · rw [at_, if_neg (by omega), if_neg e]
  · intro a b ha hb
    rw [at_, if_pos rfl, hx] at ha
    injection ha with ha
    subst ha
    by_cases e : k = i
    · rw [at_, if_neg (by omega), if_pos e, hy] at hb
      injection hb with hb
      subst hb
      exact hyx
    · rw [at_, if_neg (by omega), if_neg e] at hb
      have h2 : LeAt bf l p k := by have := h.far k k0 kl e (by omega); rwa [kpp] at this
      exact O.trans hyx (h2 y b hy hb)
theorem Down.down (O : Ord bf) {l : List α} {i c : Nat} (h : Down bf l i) (hc0 : 0 < c) (hcl : c < l.length) (hci : (c - 1) / 2 = i) {x y : α} (hx : l[i]? = some x) (hy : l[c]? = some y) (hyx : bf y x = true)
    (hk : ∀ k, 0 < k → k < l.length → (k - 1) / 2 = i → LeAt bf l c k) : Down bf (swp l i c) c := by
  have hic : i < c := by omega
  have at_ := swp_at (i := i) (by omega) hcl
  refine ⟨⟨fun k k0 kl kc kpc => ?_, fun k k0 kl kpc _ => ?_⟩, fun _ => ?_⟩
  · rw [swp_length] at kl
    by_cases e : k = i
    · refine (h.both.over c hc0 hcl hci (by omega)).of_eq ?_ ?_
      · rw [at_, if_neg kpc, if_neg (by omega), e]
      · rw [at_, if_neg kc, if_pos e]
    · by_cases e2 : (k - 1) / 2 = i
      · refine (hk k k0 kl e2).of_eq ?_ ?_
        · rw [at_, if_neg kpc, if_pos e2]
        · rw [at_, if_neg kc, if_neg e]
      · refine (h.both.far k k0 kl e e2).of_eq ?_ ?_
        · rw [at_, if_neg kpc, if_neg e2]
        · rw [at_, if_neg kc, if_neg e]
  · rw [swp_length] at kl
    have h2 : LeAt bf l c k := by have := h.both.far k k0 kl (by omega) (by omega); rwa [kpc] at this
    refine h2.of_eq ?_ ?_
    · rw [at_, if_neg (by omega), if_pos hci]
    · rw [at_, if_neg (by omega), if_neg (by omega)]
  · intro a b ha hb
    rw [at_, if_neg (by omega), if_pos hci, hy] at ha
    rw [at_, if_pos rfl, hx] at hb
    injection ha with ha
    injection hb with hb
    subst ha hb
    exact O.asym hyx
/-- Behind a removal of the first. -/
theorem HeapOrd.pop {l : List α} (h : HeapOrd bf l) {m : Nat} (hm : l.length = m + 1) : Down bf ((swp l 0 m).take m) 0 := by
  have at_ := swp_at (l := l) (i := 0) (j := m) (by omega) (by omega)
  refine ⟨⟨fun k k0 kl _ kp => ?_, fun _ _ _ _ h0 => absurd h0 (by omega)⟩, fun h0 => absurd h0 (by omega)⟩
  rw [List.length_take, swp_length] at kl
  refine (h k k0 (by omega)).of_eq ?_ ?_
  · rw [List.getElem?_take, if_pos (by omega), at_, if_neg (by omega), if_neg kp]
  · rw [List.getElem?_take, if_pos (by omega), at_, if_neg (by omega), if_neg (by omega)]
theorem HeapOrd.set (O : Ord bf) {l : List α} (h : HeapOrd bf l) {i : Nat} (hi : i < l.length) (x : α) : Both bf (l.set i x) i := by
  have hb := h.both O hi
  refine ⟨fun k k0 kl ki kp => ?_, fun k k0 kl kp h0 => ?_⟩ <;> rw [List.length_set] at kl
  · refine (hb.far k k0 kl ki kp).of_eq ?_ ?_
    · rw [List.getElem?_set, if_neg (fun e => kp e.symm)]
    · rw [List.getElem?_set, if_neg (fun e => ki e.symm)]
  · refine (hb.over k k0 kl kp h0).of_eq ?_ ?_
    · rw [List.getElem?_set, if_neg (by omega)]
    · rw [List.getElem?_set, if_neg (by omega)]
theorem HeapOrd.push {l : List α} (h : HeapOrd bf l) (x : α) : Both bf (l ++ [x]) l.length ∧ Kids bf (l ++ [x]) l.length := by
  refine ⟨⟨fun k k0 kl ki kp => ?_, fun k k0 kl kp h0 => ?_⟩, fun k k0 kl kp => ?_⟩ <;> simp at kl
  · refine (h k k0 (by omega)).of_eq ?_ ?_
    · rw [List.getElem?_append_left (by omega)]
    · rw [List.getElem?_append_left (by omega)]
  · omega
  · omega
theorem swp_last {l : List α} {m : Nat} (hm : l.length = m + 1) {a : α} (ha : l[0]? = some a) : l.Perm (a :: (swp l 0 m).take m) := by
  have h1 : (swp l 0 m).Perm l := swp_perm 0 m
  have h2 : (swp l 0 m)[m]? = some a := by rw [swp_at (by omega) (by omega), if_pos rfl, ha]
  have h3 := get_perm' h2
  have h4 : (swp l 0 m).eraseIdx m = (swp l 0 m).take m := by
    apply List.ext_getElem?
    intro k
    rw [List.getElem?_eraseIdx, List.getElem?_take]
    split
    · rfl
    · rw [List.getElem?_eq_none]; rw [swp_length]; omega
  rw [h4] at h3
  exact h1.symm.trans h3
end
end Go.Proofs.YthakcefgbggkcaaDoor

namespace Go.Proofs.YthakcefgbggkcaaDoor
open Go.RowKit

structure Ent where
  node : Int
  cost : Int
  size : Int
  h : Nat
  t : Nat
def Ent.cells (e : Ent) : List Value := [.int .i64 e.node, .int .i64 (e.h : Nat), .int .i64 (e.t : Nat)]
def ents (l : List Ent) : List Value := l.flatMap Ent.cells
theorem ents_length (l : List Ent) : (ents l).length = l.length * 3 := by
  induction l with
  | nil => rfl
  | cons t l ih => simp only [ents, List.flatMap_cons, List.length_append] at *; rw [ih]; simp [Ent.cells]; omega
theorem ents_append (l m : List Ent) : ents (l ++ m) = ents l ++ ents m := by simp [ents]
theorem ents_at : ∀ (l : List Ent) (k : Nat) (t : Ent) (j : Nat), l[k]? = some t → j < 3 → (ents l)[k * 3 + j]? = t.cells[j]?
  | [], _, _, _, h, _ => by simp at h
  | x :: l, 0, t, j, h, hj => by
    simp at h
    subst h
    simp only [ents, List.flatMap_cons]
    rw [List.getElem?_append_left (by simp [Ent.cells]; omega)]
    simp
  | x :: l, k + 1, t, j, h, hj => by
    simp at h
    have := ents_at l k t j h hj
    simp only [ents, List.flatMap_cons] at *
    rw [List.getElem?_append_right (by simp [Ent.cells]; omega)]
    rw [← this]
    congr 1
    simp [Ent.cells]; omega
theorem ents_one {l : List Ent} {u : Value} (h : u ∈ ents l) : u.oneCell' = true := by
  simp only [ents, List.mem_flatMap] at h
  obtain ⟨t, _, h⟩ := h
  simp [Ent.cells] at h
  rcases h with rfl | rfl | rfl <;> rfl
theorem ents_set : ∀ (l : List Ent) (i : Nat) (t : Ent), i < l.length → ents (l.set i t) = (ents l).take (i * 3) ++ t.cells ++ (ents l).drop (i * 3 + 3)
  | [], _, _, h => absurd h (Nat.not_lt_zero _)
  | x :: l, 0, t, _ => by simp [ents, Ent.cells]
  | x :: l, i + 1, t, h => by
    have ih := ents_set l i t (by simpa using h)
    have e1 : ents (x :: l) = x.cells ++ ents l := by simp [ents]
    have e2 : ents ((x :: l).set (i + 1) t) = x.cells ++ ents (l.set i t) := by simp [ents]
    have hx : x.cells.length = 3 := rfl
    rw [e1, e2, ih]
    rw [show (i + 1) * 3 = x.cells.length + i * 3 by rw [hx]; omega, List.take_length_add_append]
    rw [show x.cells.length + i * 3 + 3 = x.cells.length + (i * 3 + 3) by omega, List.drop_length_add_append]
    simp
section
variable {w : World} {B n : Nat} {A : Option Addr} {l : List Ent}
theorem Reads.len_ents (h : Reads w B 3 A n (ents l)) : l.length = n := by have := h.1; rw [ents_length] at this; omega
theorem Reads.ent_at (h : Reads w B 3 A n (ents l)) {k : Nat} (hk : k < n) :
    ∃ b off t, A = some ⟨b, off, none⟩ ∧ b < B ∧ l[k]? = some t ∧ w.cell? ⟨b, off + k * 3, none⟩ = some (.int .i64 t.node) ∧ w.cell? ⟨b, off + k * 3 + 1, none⟩ = some (.int .i64 (t.h : Nat)) ∧ w.cell? ⟨b, off + k * 3 + 2, none⟩ = some (.int .i64 (t.t : Nat)) := by
  obtain ⟨b, off, e, hb, hc⟩ := h.2 (by omega)
  have hl : k < l.length := by rw [h.len_ents]; exact hk
  have ht := List.getElem?_eq_getElem hl
  refine ⟨b, off, l[k], e, hb, ht, ?_, ?_, ?_⟩
  · have := hc (k * 3 + 0) (.int .i64 l[k].node) (by rw [ents_at l k _ 0 ht (by omega)]; rfl)
    simpa using this
  · have := hc (k * 3 + 1) (.int .i64 (l[k].h : Nat)) (by rw [ents_at l k _ 1 ht (by omega)]; rfl)
    simpa [Nat.add_assoc] using this
  · have := hc (k * 3 + 2) (.int .i64 (l[k].t : Nat)) (by rw [ents_at l k _ 2 ht (by omega)]; rfl)
    simpa [Nat.add_assoc] using this
end

/-- Which of two comes first: by the order, then by time. -/
def lt (a b : Ent) : Bool := (decide (a.cost < b.cost) || (a.cost == b.cost && decide (a.size < b.size)))
def bf (a b : Ent) : Bool := lt a b || (!lt b a && decide (a.t < b.t))
theorem bf_iff {a b : Ent} : bf a b = true ↔ a.cost < b.cost ∨ (a.cost = b.cost ∧ (a.size < b.size ∨ (a.size = b.size ∧ a.t < b.t))) := by
  simp only [bf, lt]
  by_cases h1 : a.cost < b.cost <;> by_cases h2 : b.cost < a.cost <;> by_cases h3 : a.size < b.size <;> by_cases h4 : b.size < a.size <;> by_cases h5 : a.t < b.t <;> simp [h1, h2, h3, h4, h5] <;> omega
theorem bf_no {a b : Ent} : bf a b = false ↔ ¬ (a.cost < b.cost ∨ (a.cost = b.cost ∧ (a.size < b.size ∨ (a.size = b.size ∧ a.t < b.t)))) := by
  rw [← bf_iff]
  simp
theorem bf_ord : Ord bf := ⟨fun h1 h2 => by rw [bf_no] at *; omega, fun h => by rw [bf_no]; rw [bf_iff] at h; omega⟩
theorem bf_total {a b : Ent} (ht : a.t ≠ b.t) (h : bf a b = false) : bf b a = true := by rw [bf_no] at h; rw [bf_iff]; omega
end Go.Proofs.YthakcefgbggkcaaDoor

namespace Go.Proofs.YthakcefgbggkcaaDoor
open Go.RowKit

structure Ext (w : World) where
  W : World
  h : Below w.heap.size w W
instance (w : World) : Nonempty (Ext w) := ⟨⟨w, Below.refl _ _⟩⟩
theorem wp_region_ext {P : Program} {id : Nat} {Q : Exit → Act → World → Prop} {a : Act} {w : World} {l : List Oper} (hm : P.follows .mixedOrders = true) (hB : Region.lexB .any l.toArray = true)
    (h : wpQuiet P l.toArray (fun w' => ∃ u : Ext w, w' = u.W) (fun a' => ∀ w', (∃ u : Ext w, w' = u.W) → Q .normal a' w') l a) : (Code.region id l.toArray true).wp P Q a w :=
  wp_region_quiet (C := fun w' => ∃ u : Ext w, w' = u.W) hm hB ⟨⟨_, (Below.refl _ w).drew⟩, rfl⟩ (by simpa using h)
theorem calls_ext {P : Program} {f : FuncId} {args : Array Value} {w : World} {u : Ext w} {v : Value} (h : Calls P f args u.W fun e w' => e = .returned v ∧ Below u.W.heap.size u.W w') :
    Calls P f args u.W fun e w'' => e = .returned v ∧ ∃ u' : Ext w, w'' = u'.W :=
  h.mono fun _ _ ⟨he, hb⟩ => ⟨he, ⟨_, u.h.trans (hb.mono u.h.size)⟩, rfl⟩
theorem calls_ext_drewN {P : Program} {f : FuncId} {args : Array Value} {w : World} {u : Ext w} {v : Value} (h : Calls P f args u.W fun e w' => e = .returned v ∧ ∃ n, w' = u.W.drewN n) :
    Calls P f args u.W fun e w'' => e = .returned v ∧ ∃ u' : Ext w, w'' = u'.W :=
  h.mono fun _ _ ⟨he, n, hn⟩ => ⟨he, ⟨_, hn ▸ below_drewN u.h n⟩, rfl⟩
theorem ext_cell {w : World} {p : Addr} {v : Value} (h : w.cell? p = some v) (u : Ext w) : u.W.cell? p = some v := (u.h.cell (World.block_lt_of_cell? w p h)).trans h
end Go.Proofs.YthakcefgbggkcaaDoor

namespace Go.Proofs.YthakcefgbggkcaaDoor
open Go.RowKit

/-- The order of values: by cost, then by size. -/
def vlt (c s c' s' : Int) : Bool := decide (c < c') || (c == c' && decide (s < s'))
theorem vless_any (c s c' s' : Int) (w : World) : Calls Tryd.prog 40 #[.agg #[.int .i64 c, .int .i64 s], .agg #[.int .i64 c', .int .i64 s']] w fun e w' => e = .returned (.bool (vlt c s c' s')) ∧ Below w.heap.size w w' := by
  have hv : vlt c s c' s' = (decide (c < c') || (c == c' && decide (s < s'))) := rfl
  rw [hv]
  clear hv
  by_cases h1 : c < c'
  · have d1 : decide (c < c') = true := by simp [h1]
    go_enter Tryd.func40, Tryd.ntmps40
    go_wp2_with fail
    go_ret
    exact ⟨by simp [h1], ((Below.refl _ _).alloc (Nat.le_refl _) _).alloc (by simp) _⟩
  · have d1 : decide (c < c') = false := by simp [h1]
    by_cases h2 : c = c'
    · have d2 : (c == c') = true := by simp [h2]
      clear h1
      go_enter Tryd.func40, Tryd.ntmps40
      go_wp2_with fail
      go_ret
      exact ⟨by simp [h2], ((Below.refl _ _).alloc (Nat.le_refl _) _).alloc (by simp) _⟩
    · have d2 : (c == c') = false := by simp [h2]
      clear h1 h2
      go_enter Tryd.func40, Tryd.ntmps40
      go_wp2_with fail
      go_ret
      exact ⟨by simp [d1, d2], ((Below.refl _ _).alloc (Nat.le_refl _) _).alloc (by simp) _⟩

/-- Where the queue's order is read: the captured variable, the span, the row of the least values. -/
structure Zq where
  cb : Nat
  sp : Nat
  bb : Nat
  N : Nat
  V : List Vl
def Zq.D (Z : Zq) (k : Nat) : Prop := k = Z.cb ∨ k = Z.sp ∨ k = Z.bb
def Env (w : World) (Z : Zq) : Prop := Blk w Z.cb 83 #[.pointer (some ⟨Z.sp, 0, none⟩)] ∧ w.cell? ⟨Z.sp, 12, none⟩ = some (.slice (some ⟨Z.bb, 0, none⟩) Z.N Z.N) ∧ Blk w Z.bb 45 (vls Z.V).toArray ∧ Z.V.length = Z.N
theorem Env.touch {w w' : World} {Z : Zq} {F : Nat → Prop} (h : Env w Z) (ht : Touch F w w') (hd : ∀ k, Z.D k → ¬ F k) : Env w' Z :=
  ⟨h.1.touch ht (hd _ (.inl rfl)), (World.cell?_of_block (w := w) (a := ⟨Z.sp, 12, none⟩) (ht.block Z.sp (World.block_lt_of_cell? w _ h.2.1) (hd _ (.inr (.inl rfl))))).trans h.2.1, h.2.2.1.touch ht (hd _ (.inr (.inr rfl))), h.2.2.2⟩
theorem Env.below {w w' : World} {Z : Zq} (h : Env w Z) (hb : Below w.heap.size w w') : Env w' Z := h.touch (Touch.of_below (F := fun _ => False) hb) (fun _ _ h => h)
/-- The entry has the value of its nonterminal. -/
def Coh (Z : Zq) (e : Ent) : Prop := ∃ j : Nat, j < Z.N ∧ e.node = (j : Nat) ∧ Z.V[j]? = some ⟨e.cost, e.size⟩

set_option maxRecDepth 100000 in
theorem less_any (Z : Zq) (x y : Ent) (w : World) (HE : Env w Z) (hx : Coh Z x) (hy : Coh Z y) : Calls Tryd.prog 44 #[.int .i64 x.node, .int .i64 y.node, .pointer (some ⟨Z.cb, 0, none⟩)] w fun e w' => e = .returned (.bool (lt x y)) ∧ Below w.heap.size w w' := by
  obtain ⟨x0, x1, x2, xh, xt⟩ := x
  obtain ⟨y0, y1, y2, yh, yt⟩ := y
  obtain ⟨i, hi, e1, hvi⟩ := hx
  obtain ⟨j, hj, e2, hvj⟩ := hy
  simp only at e1 e2 hvi hvj
  subst e1 e2
  show Calls Tryd.prog 44 #[.int .i64 (i : Nat), .int .i64 (j : Nat), .pointer (some ⟨Z.cb, 0, none⟩)] w fun e w' => e = .returned (.bool (vlt x1 x2 y1 y2)) ∧ Below w.heap.size w w'
  obtain ⟨cb, sp, bb, N, V⟩ := Z
  obtain ⟨K, s12, B, hN⟩ := HE
  simp only at K s12 B hN hi hj hvi hvj ⊢
  have c0 := ext_cell (K.cell 0)
  simp at c0
  have c1 := ext_cell s12
  obtain ⟨p0, p1⟩ := B.vl_at hvi
  obtain ⟨r0, r1⟩ := B.vl_at hvj
  have d0 := ext_cell p0
  have d1 := ext_cell p1
  have f0 := ext_cell r0
  have f1 := ext_cell r1
  simp only at d0 d1 f0 f1
  clear K s12 B p0 p1 r0 r1 hN hvi hvj
  have L1 := Lib.hid (fun u : Ext w => vless_any x1 x2 y1 y2 u.W)
  go_enter Tryd.func44, Tryd.ntmps44
  go_wp2_with fail
  refine wp_region_ext (by kernel_rfl) (by kernel_rfl) ?_
  repeat (go_big_quiet_step (exact calls_ext (L1.out _)))
  refine wpQuiet_nil ?_
  rintro _ ⟨u, rfl⟩
  go_wp2_with fail
  go_ret
  exact ⟨rfl, u.h⟩
end Go.Proofs.YthakcefgbggkcaaDoor

namespace Go.Proofs.YthakcefgbggkcaaDoor
open Go.RowKit

theorem rless_any (c s c' s' : Int) (w : World) : Calls Tryd.prog 27 #[.agg #[.int .i64 c, .int .i64 s], .agg #[.int .i64 c', .int .i64 s']] w fun e w' => e = .returned (.bool (vlt c s c' s')) ∧ Below w.heap.size w w' := by
  have hv : vlt c s c' s' = (decide (c < c') || (c == c' && decide (s < s'))) := rfl
  rw [hv]
  clear hv
  by_cases h1 : c < c'
  · have d1 : decide (c < c') = true := by simp [h1]
    go_enter Tryd.func27, Tryd.ntmps27
    go_wp2_with fail
    go_ret
    exact ⟨by simp [h1], ((Below.refl _ _).alloc (Nat.le_refl _) _).alloc (by simp) _⟩
  · have d1 : decide (c < c') = false := by simp [h1]
    by_cases h2 : c = c'
    · have d2 : (c == c') = true := by simp [h2]
      clear h1
      go_enter Tryd.func27, Tryd.ntmps27
      go_wp2_with fail
      go_ret
      exact ⟨by simp [h2], ((Below.refl _ _).alloc (Nat.le_refl _) _).alloc (by simp) _⟩
    · have d2 : (c == c') = false := by simp [h2]
      clear h1 h2
      go_enter Tryd.func27, Tryd.ntmps27
      go_wp2_with fail
      go_ret
      exact ⟨by simp [d1, d2], ((Below.refl _ _).alloc (Nat.le_refl _) _).alloc (by simp) _⟩

theorem results_val {fn : Func} {p : Tmp} (h : fn.results = #[.cell p 45]) {tmps : Array Value} {b o : Nat} (hp : tmps.getD p undef = .pointer (some ⟨b, o, none⟩)) {w : World} {x y : Int}
    (h0 : w.cell? ⟨b, o, none⟩ = some (.int .i64 x)) (h1 : w.cell? ⟨b, o + 1, none⟩ = some (.int .i64 y)) : (results fn tmps).run Tryd.prog w = .ok (.agg #[.int .i64 x, .int .i64 y]) w := by
  rw [results_cell h tmps _ hp]
  simp [go_sem, h0, h1]
theorem Blk.set2 {w : World} {g : Nat} {t : TypeId} {a0 a1 : Value} (h : Blk w g t #[a0, a1]) (x0 x1 : Value) : Blk ((w.setCell ⟨g, 0, none⟩ x0).setCell ⟨g, 1, none⟩ x1) g t #[x0, x1] := by
  have := (h.set_ 0 x0).set_ 1 x1
  simpa using this
theorem fold_take {l : List Vl} {i : Nat} {o v : Vl} (h : l[i]? = some v) : (l.take (i + 1)).foldl vstep o = vstep ((l.take i).foldl vstep o) v := by
  rw [List.take_add_one, h]
  simp
theorem vfin_c (o : Vl) : (decide (o.c = 1099511627776) = true → vfin o = vtop) ∧ (decide (o.c = 1099511627776) = false → vfin o = o) := by
  unfold vfin
  constructor
  · intro h; rw [if_pos (by simpa using h)]
  · intro h; rw [if_neg (by simpa using h)]

set_option maxRecDepth 100000 in
theorem combine_any (cost : Int) (A : Option Addr) (n c B : Nat) (l : List Vl) (w : World) (hl : Reads w B 2 A n (vls l)) (hB : B ≤ w.heap.size) (hc : 0 ≤ cost) (ho : ∀ v ∈ l, Ordy v) (hnb : n ≤ 1000000000) :
    Calls Tryd.prog 39 #[.int .i64 cost, .slice A n c] w fun e w' => e = .returned (.agg #[.int .i64 (comb cost l).c, .int .i64 (comb cost l).s]) ∧ Below w.heap.size w w' := by
  have HL := Lib.hid (hl.more hB)
  have hln := hl.len_vls
  have HO := Lib.hid ho
  clear hl ho
  go_enter Tryd.func39, Tryd.ntmps39
  go_wp2_with fail
  have K0 : Blk (((w.alloc (.cells #[.int .i64 0, .int .i64 0] 45)).alloc (.cells #[.int .i64 (min cost 1099511627776), .int .i64 1] 45))) w.heap.size 45 #[.int .i64 0, .int .i64 0] := (Blk.new' w _ _ rfl).alloc _
  have K1 : Blk (((w.alloc (.cells #[.int .i64 0, .int .i64 0] 45)).alloc (.cells #[.int .i64 (min cost 1099511627776), .int .i64 1] 45))) (w.heap.size + 1) 45 #[.int .i64 (min cost 1099511627776), .int .i64 1] := Blk.new' _ _ _ (by simp)
  have hb : Below w.heap.size w (((w.alloc (.cells #[.int .i64 0, .int .i64 0] 45)).alloc (.cells #[.int .i64 (min cost 1099511627776), .int .i64 1] 45))) := ((Below.refl _ _).alloc (Nat.le_refl _) _).alloc (by simp) _
  go_loopw [13] (fun a wr => ∃ i : Nat, i ≤ n ∧ a = .int .i64 i ∧ Hid (Blk wr w.heap.size 45 #[.int .i64 0, .int .i64 0]) ∧ Hid (Blk wr (w.heap.size + 1) 45 #[.int .i64 ((l.take i).foldl vstep ⟨min cost 1099511627776, 1⟩).c, .int .i64 ((l.take i).foldl vstep ⟨min cost 1099511627776, 1⟩).s]) ∧ Below w.heap.size w wr) (fun a _ => n - (intOf a).toNat)
  case atStart => exact ⟨0, Nat.zero_le _, rfl, K0, K1, hb⟩
  case round =>
    obtain ⟨i, hi, rfl, HK0, HK1, hbr⟩ := hrel
    clear K0 K1 hb
    have hsr := hbr.size
    obtain ⟨o, ho⟩ : ∃ o, (l.take i).foldl vstep ⟨min cost 1099511627776, 1⟩ = o := ⟨_, rfl⟩
    have hoo : Ordy o := by rw [← ho]; exact fold_ord (start_ord hc) (fun v hv => HO.out v (List.mem_of_mem_take hv))
    rw [ho] at HK1
    have c0 := HK1.out.cell 0
    have c1 := HK1.out.cell 1
    have z0 := HK1.out.frozen 0
    have z1 := HK1.out.frozen 1
    have y0 := HK0.out.frozen 0
    have y1 := HK0.out.frozen 1
    have x0 := HK0.out.cell 0
    have x1 := HK0.out.cell 1
    simp at x0 x1
    have hk1 := HK1.out.lt
    simp at c0 c1
    by_cases hlt : i < n
    case pos =>
      have hltD : decide (i < n) = true := by simp [hlt]
      obtain ⟨b, off, v, rfl, hb, hv, p0, p1⟩ := (HL.out.below hbr).vl_at hlt
      have hvo := HO.out v (List.mem_of_getElem? hv)
      have hw1 : IntKind.i64.wrap (o.c + v.c) = o.c + v.c := by unfold Ordy at hoo hvo; exact IntWalk.i64_in _ (by omega)
      have hw2 : IntKind.i64.wrap (o.s + v.s) = o.s + v.s := by unfold Ordy at hoo hvo; exact IntWalk.i64_in _ (by omega)
      have hbl : b < wr.heap.size := by omega
      go_wp2_with fail
      go_roundw
      case rel =>
        refine ⟨i + 1, by omega, by go_num, ?_, ?_, ?_⟩
        · exact ((HK0.out.far (p := ⟨w.heap.size + 1, 0, none⟩) (by simp) _).far (p := ⟨w.heap.size + 1, 1, none⟩) (by simp) _).alloc _
        · rw [fold_take hv, ho]
          have h2 : Blk ((wr.setCell ⟨w.heap.size + 1, 0, none⟩ (.int .i64 (min (o.c + v.c) 1099511627776))).setCell ⟨w.heap.size + 1, 1, none⟩ (.int .i64 (min (o.s + v.s) 1099511627776))) (w.heap.size + 1) 45 #[.int .i64 (vstep o v).c, .int .i64 (vstep o v).s] := by
            have := (HK1.out.set_ 0 (.int .i64 (min (o.c + v.c) 1099511627776))).set_ 1 (.int .i64 (min (o.s + v.s) 1099511627776))
            simpa [vstep] using this
          exact h2.alloc _
        · exact ((hbr.setCell (p := ⟨w.heap.size + 1, 0, none⟩) (by simp) _).setCell (p := ⟨w.heap.size + 1, 1, none⟩) (by simp) _).alloc (by simpa using hsr) _
      case measure => simp [intOf]; omega
    case neg =>
      have hltD : decide (i < n) = false := by simp [hlt]
      obtain rfl : i = n := by omega
      have htl : l.take i = l := by rw [← hln]; exact List.take_length
      rw [htl] at ho
      have hcm : comb cost l = vfin o := by unfold comb; rw [ho]
      obtain ⟨f1, f2⟩ := vfin_c o
      cases hd : decide (o.c = 1099511627776)
      · have hd' : (o.c == 1099511627776) = false := by simpa using hd
        go_wp2_with fail
        have r1 := HK0.out.set2 (.int .i64 o.c) (.int .i64 o.s)
        refine bodyPost_ret (results_val rfl rfl (r1.cell 0) (r1.cell 1)) rfl ?_
        exact ⟨by rw [hcm, f2 hd], (hbr.setCell (by show w.heap.size ≤ w.heap.size; omega) _).setCell (by show w.heap.size ≤ w.heap.size; omega) _⟩
      · have hd' : (o.c == 1099511627776) = true := by simpa using hd
        go_wp2_with fail
        have r1 := HK0.out.set2 (.int .i64 1099511627776) (.int .i64 0)
        refine bodyPost_ret (results_val rfl rfl (r1.cell 0) (r1.cell 1)) rfl ?_
        exact ⟨by rw [hcm, f1 hd]; rfl, (hbr.setCell (by show w.heap.size ≤ w.heap.size; omega) _).setCell (by show w.heap.size ≤ w.heap.size; omega) _⟩

set_option maxRecDepth 100000 in
theorem rcombine_any (cost : Int) (A : Option Addr) (n c B : Nat) (l : List Vl) (w : World) (hl : Reads w B 2 A n (vls l)) (hB : B ≤ w.heap.size) (hc : 0 ≤ cost) (hci : cost ≤ 1099511627776) (ho : ∀ v ∈ l, Ordy v) (hnb : n ≤ 1000000000) :
    Calls Tryd.prog 25 #[.int .i64 cost, .slice A n c] w fun e w' => e = .returned (.agg #[.int .i64 (comb cost l).c, .int .i64 (comb cost l).s]) ∧ Below w.heap.size w w' := by
  have HL := Lib.hid (hl.more hB)
  have hln := hl.len_vls
  have HO := Lib.hid ho
  have hmin : min cost 1099511627776 = cost := by omega
  clear hl ho
  go_enter Tryd.func25, Tryd.ntmps25
  go_wp2_with fail
  have K0 : Blk (w.alloc (.cells #[.int .i64 0, .int .i64 0] 45)) w.heap.size 45 #[.int .i64 0, .int .i64 0] := Blk.new' w _ _ rfl
  have hb : Below w.heap.size w (w.alloc (.cells #[.int .i64 0, .int .i64 0] 45)) := (Below.refl _ _).alloc (Nat.le_refl _) _
  go_loopw [5, 6, 7] (fun x5 x6 a wr => ∃ i : Nat, i ≤ n ∧ a = .int .i64 i ∧ x5 = .int .i64 ((l.take i).foldl vstep ⟨min cost 1099511627776, 1⟩).c ∧ x6 = .int .i64 ((l.take i).foldl vstep ⟨min cost 1099511627776, 1⟩).s ∧ Hid (Blk wr w.heap.size 45 #[.int .i64 0, .int .i64 0]) ∧ Below w.heap.size w wr) (fun _ _ a _ => n - (intOf a).toNat)
  case atStart => exact ⟨0, Nat.zero_le _, rfl, by simp [hmin], rfl, K0, hb⟩
  case round =>
    obtain ⟨i, hi, rfl, rfl, rfl, HK0, hbr⟩ := hrel
    clear K0 hb
    have hsr := hbr.size
    obtain ⟨o, ho⟩ : ∃ o, (l.take i).foldl vstep ⟨min cost 1099511627776, 1⟩ = o := ⟨_, rfl⟩
    have hoo : Ordy o := by rw [← ho]; exact fold_ord (start_ord hc) (fun v hv => HO.out v (List.mem_of_mem_take hv))
    rw [ho]
    have y0 := HK0.out.frozen 0
    have y1 := HK0.out.frozen 1
    have x0 := HK0.out.cell 0
    have x1 := HK0.out.cell 1
    simp at x0 x1
    by_cases hlt : i < n
    case pos =>
      have hltD : decide (i < n) = true := by simp [hlt]
      obtain ⟨b, off, v, rfl, hb, hv, p0, p1⟩ := (HL.out.below hbr).vl_at hlt
      have hvo := HO.out v (List.mem_of_getElem? hv)
      have hw1 : IntKind.i64.wrap (o.c + v.c) = o.c + v.c := by unfold Ordy at hoo hvo; exact IntWalk.i64_in _ (by omega)
      have hw2 : IntKind.i64.wrap (o.s + v.s) = o.s + v.s := by unfold Ordy at hoo hvo; exact IntWalk.i64_in _ (by omega)
      go_wp2_with fail
      go_quiet (fail)
      go_wp2_with fail
      go_roundw
      case rel =>
        refine ⟨i + 1, by omega, by go_num, ?_, ?_, ?_, ?_⟩
        · rw [fold_take hv, ho]; rfl
        · rw [fold_take hv, ho]; rfl
        · exact HK0.out.drewN _
        · exact below_drewN hbr _
      case measure => simp [intOf]; omega
    case neg =>
      have hltD : decide (i < n) = false := by simp [hlt]
      obtain rfl : i = n := by omega
      have htl : l.take i = l := by rw [← hln]; exact List.take_length
      rw [htl] at ho
      have hcm : comb cost l = vfin o := by unfold comb; rw [ho]
      obtain ⟨f1, f2⟩ := vfin_c o
      have hle := hoo.2.1
      cases hd : decide (o.c = 1099511627776)
      · have hd' : decide ((1099511627776 : Int) ≤ o.c) = false := by have : ¬ o.c = 1099511627776 := by simpa using hd
                                                                      simp; omega
        go_wp2_with fail
        have r1 := HK0.out.set2 (.int .i64 o.c) (.int .i64 o.s)
        refine bodyPost_ret (results_val rfl rfl (r1.cell 0) (r1.cell 1)) rfl ?_
        exact ⟨by rw [hcm, f2 hd], (hbr.setCell (by show w.heap.size ≤ w.heap.size; omega) _).setCell (by show w.heap.size ≤ w.heap.size; omega) _⟩
      · have hd' : decide ((1099511627776 : Int) ≤ o.c) = true := by have : o.c = 1099511627776 := by simpa using hd
                                                                     simp; omega
        go_wp2_with fail
        have r1 := HK0.out.set2 (.int .i64 1099511627776) (.int .i64 0)
        refine bodyPost_ret (results_val rfl rfl (r1.cell 0) (r1.cell 1)) rfl ?_
        exact ⟨by rw [hcm, f1 hd]; rfl, (hbr.setCell (by show w.heap.size ≤ w.heap.size; omega) _).setCell (by show w.heap.size ≤ w.heap.size; omega) _⟩
end Go.Proofs.YthakcefgbggkcaaDoor

namespace Go.Proofs.YthakcefgbggkcaaDoor
open Go.RowKit

theorem tri_div (S s : Nat) (h : s ≤ S) : (tri S s : Int) = (s : Int) * S - ((s : Int) * ((s : Int) - 1)).tdiv 2 := by
  have h1 := tri_sq S s h
  have e : (s : Int) * ((s : Int) - 1) = ((s * (s - 1) : Nat) : Int) := by
    cases s with
    | zero => simp
    | succ s => simp only [Nat.add_sub_cancel]; push_cast; rw [show ((s : Int) + 1 - 1) = s by omega]
  rw [e, Int.tdiv_eq_ediv_of_nonneg (by omega)]
  have e2 : (s : Int) * S = ((s * S : Nat) : Int) := by push_cast; rfl
  rw [e2]
  generalize s * (s - 1) = y at *
  generalize s * S = x at *
  omega
theorem offset_any (N S s t c : Nat) (A : Option Addr) (n : Nat) (w : World) (h1 : s ≤ t) (h2 : t < S) (hN : N ≤ 10000) (hS : S ≤ 10000) :
    Calls Tryd.prog 33 #[.agg #[.int .i64 N, .int .i64 S, .slice A n c], .int .i64 s, .int .i64 t] w fun e w' => e = .returned (.int .i64 (cix S s t * N : Nat)) ∧ Below w.heap.size w w' := by
  obtain ⟨T, hT⟩ : ∃ T, tri S s = T := ⟨_, rfl⟩
  have hd := tri_div S s (by omega)
  have hTl := tri_le S s
  rw [hT] at hd hTl
  have hsS : s * S ≤ 10000 * 10000 := Nat.mul_le_mul (by omega) hS
  have hss : s * (s - 1) ≤ 10000 * 10000 := Nat.mul_le_mul (by omega) (by omega)
  obtain ⟨y, hy⟩ : ∃ y : Int, (s : Int) * ((s : Int) - 1) = y := ⟨_, rfl⟩
  have hyb : 0 ≤ y ∧ y ≤ 100000000 := by
    rw [← hy]
    have e : (s : Int) * ((s : Int) - 1) = ((s * (s - 1) : Nat) : Int) := by
      cases s with
      | zero => simp
      | succ s => simp only [Nat.add_sub_cancel]; push_cast; rw [show ((s : Int) + 1 - 1) = s by omega]
    rw [e]
    omega
  obtain ⟨x, hx⟩ : ∃ x : Int, (s : Int) * (S : Int) = x := ⟨_, rfl⟩
  have hxb : 0 ≤ x ∧ x ≤ 100000000 := by
    rw [← hx]
    have e2 : (s : Int) * S = ((s * S : Nat) : Int) := by push_cast; rfl
    rw [e2]
    omega
  have u1 : IntKind.i64.wrap ((s : Int) * (S : Int)) = x := by rw [hx]; exact IntWalk.i64_in _ (by omega)
  have u2 : IntKind.i64.wrap ((s : Int) * ((s : Int) - 1)) = y := by rw [hy]; exact IntWalk.i64_in _ (by omega)
  rw [hx, hy] at hd
  obtain ⟨z, hz⟩ : ∃ z : Int, y.tdiv 2 = z := ⟨_, rfl⟩
  rw [hz] at hd
  have hz2 : z = y / 2 := by rw [← hz]; exact Int.tdiv_eq_ediv_of_nonneg hyb.1
  have hxz : x - z = (T : Int) := hd.symm
  have hcx : cix S s t = T + (t - s) := by unfold cix; rw [hT]
  have hcb : (T + (t - s)) * N ≤ 100010000 * 10000 := Nat.mul_le_mul (by omega) hN
  have hr : ((T : Int) + (t : Int) - (s : Int)) * (N : Int) = ((cix S s t * N : Nat) : Int) := by
    rw [hcx]; push_cast; rw [show ((t - s : Nat) : Int) = (t : Int) - s by omega, Int.add_sub_assoc]
  have u3 : IntKind.i64.wrap (((T : Int) + (t : Int) - (s : Int)) * (N : Int)) = ((cix S s t * N : Nat) : Int) := by rw [hr]; exact IntWalk.i64_in _ (by rw [hcx]; omega)
  obtain ⟨r, hrr⟩ : ∃ r, cix S s t * N = r := ⟨_, rfl⟩
  rw [hrr] at u3 ⊢
  have u4 : IntKind.i64.wrap ((s : Int) - 1) = (s : Int) - 1 := IntWalk.i64_in _ (by omega)
  have u5 : IntKind.i64.wrap z = z := IntWalk.i64_in _ (by omega)
  have u6 : IntKind.i64.wrap (x - z) = (T : Int) := by rw [hxz]; exact IntWalk.i64_in _ (by omega)
  have u7 : IntKind.i64.wrap ((T : Int) + (t : Int)) = (T : Int) + (t : Int) := IntWalk.i64_in _ (by omega)
  have u8 : IntKind.i64.wrap ((T : Int) + (t : Int) - (s : Int)) = (T : Int) + (t : Int) - (s : Int) := IntWalk.i64_in _ (by omega)
  have hz' : y / 2 = z := hz2.symm
  have hTb : T ≤ 100000000 := by omega
  clear hxz
  clear hr hrr hcx hcb hz2 hd hsS hss hTl hT hx hy hxb hyb
  go_enter Tryd.func33, Tryd.ntmps33
  go_wp2_with fail
  go_ret
  exact ⟨rfl, (Below.refl _ _).alloc (Nat.le_refl _) _⟩

def Cl.val (x : Cl) : Value := .agg #[.int .i64 x.v.c, .int .i64 x.v.s, .int .i64 x.r, .int .i64 x.a]
theorem results_cl {fn : Func} {p : Tmp} (h : fn.results = #[.cell p 47]) {tmps : Array Value} {b o : Nat} (hp : tmps.getD p undef = .pointer (some ⟨b, o, none⟩)) {w : World} {c s r a : Int}
    (h0 : w.cell? ⟨b, o, none⟩ = some (.int .i64 c)) (h1 : w.cell? ⟨b, o + 1, none⟩ = some (.int .i64 s)) (h2 : w.cell? ⟨b, o + 2, none⟩ = some (.int .i64 r)) (h3 : w.cell? ⟨b, o + 3, none⟩ = some (.int .i64 a)) :
    (results fn tmps).run Tryd.prog w = .ok (.agg #[.int .i64 c, .int .i64 s, .int .i64 r, .int .i64 a]) w := by
  rw [results_cell h tmps _ hp]
  simp [go_sem, h0, h1, h2, h3]
theorem at_cases (N S nc : Nat) (cs : List Cl) (x : It) (hlen : cs.length = nc) :
    (atC N S cs x = cnone ∧ (decide (x.h < 0) = true ∨ (decide (x.h < 0) = false ∧ decide ((N : Int) ≤ x.h) = true) ∨ (decide (x.h < 0) = false ∧ decide ((N : Int) ≤ x.h) = false ∧ decide (x.f < 0) = true) ∨
      (decide (x.h < 0) = false ∧ decide ((N : Int) ≤ x.h) = false ∧ decide (x.f < 0) = false ∧ decide (x.t < x.f) = true) ∨ (decide (x.h < 0) = false ∧ decide ((N : Int) ≤ x.h) = false ∧ decide (x.f < 0) = false ∧ decide (x.t < x.f) = false ∧ decide ((S : Int) ≤ x.t) = true))) ∨
    ∃ h f t : Nat, x = ⟨h, f, t⟩ ∧ h < N ∧ f ≤ t ∧ t < S ∧
      ((atC N S cs x = cnone ∧ (decide (nc < t) = true ∨ (decide (nc < t) = false ∧ decide (0 < f) = true ∧ decide (nc < S) = true) ∨
        (decide (nc < t) = false ∧ decide (0 < f) = true ∧ decide (nc < S) = false ∧ decide (0 < t) = true ∧ decide (nc < N) = true) ∨ (decide (nc < t) = false ∧ decide (0 < f) = false ∧ decide (0 < t) = true ∧ decide (nc < N) = true) ∨
        (decide (nc < t) = false ∧ decide (0 < f) = true ∧ decide (nc < S) = false ∧ decide (0 < t) = true ∧ decide (nc < N) = false ∧ decide (nc ≤ h) = true) ∨ (decide (nc < t) = false ∧ decide (0 < f) = false ∧ decide (0 < t) = true ∧ decide (nc < N) = false ∧ decide (nc ≤ h) = true) ∨
        (decide (nc < t) = false ∧ decide (0 < f) = false ∧ decide (0 < t) = false ∧ decide (nc ≤ h) = true))) ∨
       (((decide (nc < t) = false ∧ decide (0 < f) = true ∧ decide (nc < S) = false ∧ decide (0 < t) = true ∧ decide (nc < N) = false ∧ decide (nc ≤ h) = false) ∨ (decide (nc < t) = false ∧ decide (0 < f) = false ∧ decide (0 < t) = true ∧ decide (nc < N) = false ∧ decide (nc ≤ h) = false) ∨
        (decide (nc < t) = false ∧ decide (0 < f) = false ∧ decide (0 < t) = false ∧ decide (nc ≤ h) = false)) ∧
        ((atC N S cs x = cnone ∧ nc ≤ cix S f t * N + h) ∨ (cix S f t * N + h < nc ∧ ∃ y, cs[cix S f t * N + h]? = some y ∧ atC N S cs x = y)))) := by
  obtain ⟨xh, xf, xt⟩ := x
  by_cases hin : (0 ≤ xh ∧ xh < N) ∧ 0 ≤ xf ∧ xf ≤ xt ∧ xt < S
  case neg =>
    left
    refine ⟨if_neg hin, ?_⟩
    simp only [decide_eq_true_eq, decide_eq_false_iff_not]
    omega
  case pos =>
    right
    obtain ⟨⟨h1, h2⟩, h3, h4, h5⟩ := hin
    obtain ⟨h, rfl⟩ := Int.eq_ofNat_of_zero_le h1
    obtain ⟨f, rfl⟩ := Int.eq_ofNat_of_zero_le h3
    obtain ⟨t, rfl⟩ := Int.eq_ofNat_of_zero_le (show (0 : Int) ≤ xt by omega)
    have hft : f ≤ t := by omega
    have htS : t < S := by omega
    have hhN : h < N := by omega
    have hat : atC N S cs ⟨h, f, t⟩ = (cs[cix S f t * N + h]?).getD cnone := by
      unfold atC
      rw [if_pos ⟨⟨h1, h2⟩, h3, h4, h5⟩]
      simp
    refine ⟨h, f, t, rfl, hhN, hft, htS, ?_⟩
    rw [hat]
    have b1 : cix S f t ≤ cix S f t * N := Nat.le_mul_of_pos_right _ (by omega)
    have b2 := cix_ge hft htS
    have b3 : 0 < t → N ≤ cix S f t * N := fun h0 => Nat.le_mul_of_pos_left _ (by omega)
    have b4 : 0 < f → S ≤ cix S f t := fun h0 => cix_ge_S h0 hft htS
    have hno : nc ≤ cix S f t * N + h → (cs[cix S f t * N + h]?).getD cnone = cnone := fun hle => by
      rw [List.getElem?_eq_none (by omega)]; rfl
    obtain ⟨P, hP⟩ : ∃ P, cix S f t * N = P := ⟨_, rfl⟩
    rw [hP] at b1 b3 hno ⊢
    by_cases hbad : nc < t ∨ (0 < f ∧ nc < S) ∨ (0 < t ∧ nc < N) ∨ nc ≤ h
    case pos =>
      left
      refine ⟨hno (by
        rcases hbad with h | ⟨h, h'⟩ | ⟨h, h'⟩ | h
        · omega
        · have := b4 h; omega
        · have := b3 h; omega
        · omega), ?_⟩
      simp only [decide_eq_true_eq, decide_eq_false_iff_not]
      omega
    case neg =>
      right
      refine ⟨?_, ?_⟩
      · simp only [decide_eq_true_eq, decide_eq_false_iff_not]
        omega
      · by_cases hle : nc ≤ P + h
        · exact .inl ⟨hno hle, hle⟩
        · right
          obtain ⟨y, hy⟩ : ∃ y, cs[P + h]? = some y := ⟨_, List.getElem?_eq_getElem (by omega)⟩
          exact ⟨by omega, y, hy, by rw [hy]; rfl⟩

theorem at_below {w W : World} {B g : Nat} (h : Below B w W) (hg : B ≤ g) (a b c d : Value) : Below B w ((((W.setCell ⟨g, 0, none⟩ a).setCell ⟨g, 1, none⟩ b).setCell ⟨g, 2, none⟩ c).setCell ⟨g, 3, none⟩ d) :=
  (((h.setCell (p := ⟨g, 0, none⟩) hg _).setCell (p := ⟨g, 1, none⟩) hg _).setCell (p := ⟨g, 2, none⟩) hg _).setCell (p := ⟨g, 3, none⟩) hg _
set_option maxRecDepth 100000 in
set_option maxHeartbeats 2000000 in
theorem at_any (N S nc c B : Nat) (A : Option Addr) (cs : List Cl) (x : It) (w : World) (hl : Reads w B 4 A nc (cls cs)) (hB : B ≤ w.heap.size) (hN : N ≤ 10000) (hS : S ≤ 10000) (_hnc : nc ≤ 1000000000000) (hg : NoneAt w) :
    Calls Tryd.prog 28 #[.agg #[.int .i64 N, .int .i64 S, .slice A nc c], .agg #[.int .i64 x.h, .int .i64 x.f, .int .i64 x.t]] w fun e w' => e = .returned (atC N S cs x).val ∧ Below w.heap.size w w' := by
  obtain ⟨W, hW⟩ : ∃ W, ((w.alloc (.cells #[.int .i64 N, .int .i64 S, .slice A nc c] 34)).alloc (.cells #[.int .i64 x.h, .int .i64 x.f, .int .i64 x.t] 61)).alloc (.cells #[.int .i64 0, .int .i64 0, .int .i64 0, .int .i64 0] 47) = W := ⟨_, rfl⟩
  have hsW : W.heap.size = w.heap.size + 3 := by rw [← hW]; simp
  have K2 : Blk W w.heap.size 34 #[.int .i64 N, .int .i64 S, .slice A nc c] := by rw [← hW]; exact ((Blk.new' _ _ _ rfl).alloc _).alloc _
  have K3 : Blk W (w.heap.size + 1) 61 #[.int .i64 x.h, .int .i64 x.f, .int .i64 x.t] := by rw [← hW]; exact (Blk.new' _ _ _ (by simp)).alloc _
  have K4 : Blk W (w.heap.size + 2) 47 #[.int .i64 0, .int .i64 0, .int .i64 0, .int .i64 0] := by rw [← hW]; exact Blk.new' _ _ _ (by simp)
  have hb0 : Below w.heap.size w W := by rw [← hW]; exact (((Below.refl _ _).alloc (Nat.le_refl _) _).alloc (by simp) _).alloc (by simp; omega) _
  have hln := hl.len_cls
  have HL := Lib.hid ((hl.more hB).below hb0)
  have hgW := hg.next hb0
  have HG := Lib.hid hgW
  obtain ⟨g0, g1, g2, g3⟩ := hgW
  have k20 := K2.cell 0
  have k21 := K2.cell 1
  have k22 := K2.cell 2
  have k30 := K3.cell 0
  have k31 := K3.cell 1
  have k32 := K3.cell 2
  have k40 := K4.cell 0
  have k41 := K4.cell 1
  have k42 := K4.cell 2
  have k43 := K4.cell 3
  have z0 := K4.frozen 0
  have z1 := K4.frozen 1
  have z2 := K4.frozen 2
  have z3 := K4.frozen 3
  simp at k20 k21 k22 k30 k31 k32 k40 k41 k42 k43
  obtain ⟨b2, hb2⟩ : ∃ b2, w.heap.size = b2 := ⟨_, rfl⟩
  have HWW := Lib.hid hW
  have HB0 := Lib.hid hb0
  have HHB := Lib.hid hb2
  have HLE := Lib.hid (show w.heap.size ≤ b2 + 2 by omega)
  have HBB : Hid (∀ a b c d : Value, Below b2 w ((((W.setCell ⟨b2 + 1 + 1, 0, none⟩ a).setCell ⟨b2 + 1 + 1, 1, none⟩ b).setCell ⟨b2 + 1 + 1, 2, none⟩ c).setCell ⟨b2 + 1 + 1, 3, none⟩ d)) := fun a b c d => by rw [← hb2]; exact at_below hb0 (by omega) a b c d
  rw [hb2] at K4
  have HK4 := Lib.hid K4
  have key := at_cases N S nc cs x hln
  have HN2 := Lib.hid (show b2 ≠ 0 ∧ b2 + 1 ≠ 0 ∧ b2 + 2 ≠ 0 by have := hg.lt; omega)
  clear hl hb0 hW hg K2 K3 K4
  rw [hb2] at k20 k21 k22 k30 k31 k32 k40 k41 k42 k43 z0 z1 z2 z3 hsW
  rcases key with ⟨hres, hc⟩ | ⟨h, f, t, hx, hhN, hft, htS, hc⟩
  · have HRES := Lib.hid hres
    clear hres
    rcases hc with d1 | ⟨d1, d2⟩ | ⟨d1, d2, d3⟩ | ⟨d1, d2, d3, d4⟩ | ⟨d1, d2, d3, d4, d5⟩
    all_goals
      go_enter Tryd.func28, Tryd.ntmps28
      go_upto_region 1 with fail
      rw [HWW.out]
      go_wp2_with fail
      have r1 := HK4.out.set4 (.int .i64 1099511627776) (.int .i64 0) (.int .i64 (-1)) (.int .i64 0)
      refine bodyPost_ret (results_cl rfl rfl (r1.cell 0) (r1.cell 1) (r1.cell 2) (r1.cell 3)) rfl ⟨by rw [HRES.out]; rfl, ?_⟩
      exact at_below HB0.out HLE.out _ _ _ _
  · subst hx
    simp only at k30 k31 k32
    have HHN : ¬ N ≤ h := by omega
    have HTF : ¬ t < f := by omega
    have HST : ¬ S ≤ t := by omega
    have e1 : decide ((h : Int) < 0) = false := by simp
    have e2 : decide ((N : Int) ≤ (h : Int)) = false := by simp; omega
    have e3 : decide ((f : Int) < 0) = false := by simp
    have e4 : decide ((t : Int) < (f : Int)) = false := by simp; omega
    have e5 : decide ((S : Int) ≤ (t : Int)) = false := by simp; omega
    have e2' : decide (N ≤ h) = false := by simp; omega
    have e4' : decide (t < f) = false := by simp; omega
    have e5' : decide (S ≤ t) = false := by simp; omega
    clear HHN HTF HST
    rcases hc with ⟨hres, hc⟩ | ⟨hc, hres⟩
    · have HRES := Lib.hid hres
      clear hres
      rcases hc with d1 | ⟨d1, d2, d3⟩ | ⟨d1, d2, d3, d4, d5⟩ | ⟨d1, d2, d3, d4⟩ | ⟨d1, d2, d3, d4, d5, d6⟩ | ⟨d1, d2, d3, d4, d5⟩ | ⟨d1, d2, d3, d4⟩
      all_goals
        go_enter Tryd.func28, Tryd.ntmps28
        go_upto_region 1 with fail
        rw [HWW.out]
        go_wp2_with fail
        have r1 := HK4.out.set4 (.int .i64 1099511627776) (.int .i64 0) (.int .i64 (-1)) (.int .i64 0)
        refine bodyPost_ret (results_cl rfl rfl (r1.cell 0) (r1.cell 1) (r1.cell 2) (r1.cell 3)) rfl ⟨by rw [HRES.out]; rfl, ?_⟩
        exact HBB.out _ _ _ _
    · have hx : Hid (atC N S cs ⟨h, f, t⟩ = cnone ∧ nc ≤ cix S f t * N + h ∨ cix S f t * N + h < nc ∧ ∃ y, cs[cix S f t * N + h]? = some y ∧ atC N S cs ⟨h, f, t⟩ = y) := hres
      have hcb : cix S f t * N + h ≤ 1100000000000 := by
        have := cix_lt hft htS
        have h1 := tri_le S S
        have h2 : S * S ≤ 10000 * 10000 := Nat.mul_le_mul hS hS
        have h3 : cix S f t * N ≤ 100000000 * 10000 := Nat.mul_le_mul (by omega) hN
        omega
      obtain ⟨P, hP⟩ : ∃ P, cix S f t * N = P := ⟨_, rfl⟩
      have HP := Lib.hid hP
      rw [hP] at hx hcb
      have HFT := Lib.hid (And.intro hft htS)
      clear hres hP hft htS
      have u1 : IntKind.i64.wrap ((P : Int) + (h : Int)) = (P : Int) + (h : Int) := IntWalk.i64_in _ (by omega)
      rcases hc with ⟨d1, d2, d3, d4, d5, d6⟩ | ⟨d1, d2, d3, d4, d5⟩ | ⟨d1, d2, d3, d4⟩
      all_goals
        go_enter Tryd.func28, Tryd.ntmps28
        go_upto_region 1 with fail
        rw [HWW.out]
        go_upto_region 6 with fail
        have x20 := ext_cell k20
        have x21 := ext_cell k21
        have x22 := ext_cell k22
        have x30 := ext_cell k30
        have x31 := ext_cell k31
        have x32 := ext_cell k32
        have hof := fun u : Ext W => offset_any N S f t c A nc u.W HFT.out.1 HFT.out.2 hN hS
        rw [HP.out] at hof
        have HOF := Lib.hid hof
        clear hof
        refine wp_region_ext (by kernel_rfl) (by kernel_rfl) ?_
        repeat (go_big_quiet_step (exact calls_ext (HOF.out _)))
        refine wpQuiet_nil ?_
        rintro _ ⟨u, rfl⟩
        have hbu := u.h
        have hWu : Below w.heap.size w u.W := HB0.out.trans (hbu.mono HB0.out.size)
        have HKU := Lib.hid (HK4.out.below hbu HK4.out.lt)
        have HGU := Lib.hid (HG.out.next hbu)
        have HLU := Lib.hid (HL.out.below (hbu.mono HB0.out.size))
        have HBU : Hid (∀ a b c d : Value, Below b2 w ((((u.W.setCell ⟨b2 + 1 + 1, 0, none⟩ a).setCell ⟨b2 + 1 + 1, 1, none⟩ b).setCell ⟨b2 + 1 + 1, 2, none⟩ c).setCell ⟨b2 + 1 + 1, 3, none⟩ d)) := fun a b c d => by rw [← HHB.out]; exact at_below hWu (by omega) a b c d
        have y22 := x22 u
        have k40' := (HKU.out.cell 0)
        have k41' := (HKU.out.cell 1)
        have k42' := (HKU.out.cell 2)
        have k43' := (HKU.out.cell 3)
        have z0' := HKU.out.frozen 0
        have z1' := HKU.out.frozen 1
        have z2' := HKU.out.frozen 2
        have z3' := HKU.out.frozen 3
        simp at k40' k41' k42' k43'
        clear x20 x21 x22 x30 x31 x32 HOF hbu hWu z0 z1 z2 z3
        rcases hx.out with ⟨hn, hle⟩ | ⟨hlt, y, hy, he⟩
        · have hleD : decide ((nc : Int) ≤ (P : Int) + (h : Int)) = true := by simp; omega
          obtain ⟨g0, g1, g2, g3⟩ := HGU.out
          have HE2 := Lib.hid hn
          clear hn hle
          go_wp2_with fail
          have r1 := HKU.out.set4 (.int .i64 1099511627776) (.int .i64 0) (.int .i64 (-1)) (.int .i64 0)
          refine bodyPost_ret (results_cl rfl rfl (r1.cell 0) (r1.cell 1) (r1.cell 2) (r1.cell 3)) rfl ⟨by rw [HE2.out]; rfl, ?_⟩
          exact HBU.out _ _ _ _
        · have hleD : decide ((nc : Int) ≤ (P : Int) + (h : Int)) = false := by simp; omega
          have hltI : (P : Int) + (h : Int) < (nc : Int) := by omega
          have h0I : (0 : Int) ≤ (P : Int) + (h : Int) := by omega
          have hNI : ((P : Int) + (h : Int)).toNat = P + h := by omega
          obtain ⟨b, off, y', hA, _, hy', c0, c1, c2, c3⟩ := HLU.out.cl_at hlt
          rw [hy] at hy'
          injection hy' with hy'
          subst hy'
          have HE2 := Lib.hid he
          clear he hlt hy
          rw [hA] at y22
          rw [hA]
          go_wp2_with fail
          have r1 := HKU.out.set4 (.int .i64 y.v.c) (.int .i64 y.v.s) (.int .i64 y.r) (.int .i64 y.a)
          refine bodyPost_ret (results_cl rfl rfl (r1.cell 0) (r1.cell 1) (r1.cell 2) (r1.cell 3)) rfl ⟨by rw [HE2.out]; rfl, ?_⟩
          exact HBU.out _ _ _ _
end Go.Proofs.YthakcefgbggkcaaDoor
