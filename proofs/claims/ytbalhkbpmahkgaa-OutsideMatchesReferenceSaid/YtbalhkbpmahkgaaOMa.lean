/- The base: blocks, rows, maps, touched blocks. -/
import Derived.Test.YtbalhkbpmahkgaaRows
import Derived.WalkKit
import Derived.WalkSpells
import Derived.WalkLawsBesides
import Derived.Deep.QuietTactic
import Derived.BigQuiet
import Derived.Lib.Hide
import Derived.Deep.Draws
import Derived.Deep.AppendLies
import Derived.Deep.RegionHeld3
import Derived.Deep.DeepFit
import Derived.ProofKit
import Derived.OpenShut
import Derived.Deep.Slices
import Derived.Deep.Fields
import Derived.Lib.SmallJoins
import Derived.ChangeSame
import Derived.Maps.OwnSet
import Derived.Maps.AppendAt
import Derived.RegionTactic
import Derived.OwnWalk
namespace Go.Proofs.Ytbalhkbpmahkgaa
open Go.RowKit

theorem block_of_add (a : Addr) (n : Nat) : (a.add n).block = a.block := by unfold Addr.add; split <;> rfl

/-- The slice with address A and n elements of 'size' cells holds the cells xs; it lies below block B. -/
def Reads (w : World) (B size : Nat) (A : Option Addr) (n : Nat) (xs : List Value) : Prop :=
  xs.length = n * size ∧ (0 < n → ∃ b off, A = some ⟨b, off, none⟩ ∧ b < B ∧ ∀ j u, xs[j]? = some u → w.cell? ⟨b, off + j, none⟩ = some u)

section
variable {w w' : World} {B B' size n : Nat} {A : Option Addr} {xs : List Value}
theorem Reads.nil_ : Reads w B size A 0 [] := ⟨by simp, fun h => absurd h (by omega)⟩
theorem Reads.keep (h : Reads w B size A n xs) (hk : ∀ p : Addr, p.block < B → w'.cell? p = w.cell? p) : Reads w' B size A n xs :=
  ⟨h.1, fun hn => by
    obtain ⟨b, off, e, hb, hc⟩ := h.2 hn
    exact ⟨b, off, e, hb, fun j u hu => (hk _ hb).trans (hc j u hu)⟩⟩
theorem Reads.more (h : Reads w B size A n xs) (hB : B ≤ B') : Reads w B' size A n xs :=
  ⟨h.1, fun hn => by
    obtain ⟨b, off, e, hb, hc⟩ := h.2 hn
    exact ⟨b, off, e, by omega, hc⟩⟩
theorem Reads.below (h : Reads w B size A n xs) (hb : Below B w w') : Reads w' B size A n xs := h.keep fun _ hp => hb.cell hp
theorem Reads.drew (h : Reads w B size A n xs) : Reads w.drew B size A n xs := h
theorem Reads.drewN (h : Reads w B size A n xs) (k : Nat) : Reads (w.drewN k) B size A n xs := h
theorem Reads.alloc (h : Reads w B size A n xs) (hB : B ≤ w.heap.size) (o : Obj) : Reads (w.alloc o) B size A n xs := h.keep fun p hp => World.cell?_alloc_lt w o p (by omega)
theorem Reads.setCell (h : Reads w B size A n xs) {p : Addr} (hB : B ≤ p.block) (u : Value) : Reads (w.setCell p u) B size A n xs :=
  h.keep fun q hq => World.cell?_setCell_other w p q u (fun e => by subst e; omega)
theorem Reads.grown (h : Reads w B size A n xs) {row : Option Nat} (hg : w.grownBy w' row) (hB : B ≤ w.heap.size) (hr : ∀ g, row = some g → B ≤ g) : Reads w' B size A n xs :=
  h.keep fun p hp => World.cell?_of_block (hg.block p.block (by omega) (fun e => by have := hr _ e.symm; omega))
/-- Below the heap's size it is in any case. -/
theorem Reads.top (h : Reads w B size A n xs) : Reads w w.heap.size size A n xs ∨ xs = [] := by
  rcases Nat.eq_zero_or_pos n with h0 | h0
  · right; subst h0; exact List.eq_nil_of_length_eq_zero (by simpa using h.1)
  · rcases Nat.eq_zero_or_pos size with s0 | s0
    · right; subst s0; exact List.eq_nil_of_length_eq_zero (by simpa using h.1)
    · left
      refine ⟨h.1, fun hn => ?_⟩
      obtain ⟨b, off, e, hb, hc⟩ := h.2 hn
      refine ⟨b, off, e, ?_, hc⟩
      have hl : 0 < xs.length := by rw [h.1]; exact Nat.mul_pos h0 s0
      have := hc 0 xs[0] (List.getElem?_eq_getElem hl)
      exact World.block_lt_of_cell? w _ this
theorem Reads.of_own {base : Nat} {e : TypeId} {c : Nat} (h : w.ownsRow base e size (.slice A n c) n xs) : Reads w w.heap.size size A n xs := by
  refine ⟨h.1, fun hn => ?_⟩
  obtain ⟨g, cap, hv, _, hlt⟩ := h.form hn
  have hA : A = some ⟨g, 0, none⟩ := by injection hv
  subst hA
  refine ⟨g, 0, rfl, hlt, fun j u hu => ?_⟩
  have := h.cells (g := g) rfl j u hu
  rw [Addr.add_lit] at this
  exact this
/-- The form of an owned slice's value. -/
theorem own_form {base : Nat} {e : TypeId} {v : Value} (h : w.ownsRow base e size v n xs) : ∃ A c, v = .slice A n c ∧ n ≤ c ∧ c ≤ maxLen := by
  rcases h.2 with ⟨rfl, rfl⟩ | ⟨g, cap, cur, rfl, _, _, h1, h2, _⟩
  · exact ⟨none, 0, rfl, Nat.le_refl _, by unfold maxLen; omega⟩
  · exact ⟨_, _, rfl, h1, h2⟩
end

/-- Cells below B, and marks, read as before. -/
theorem bcell {w w1 : World} {B : Nat} (hb : Below B w w1) : (∀ b o, b < B → w1.cell? ⟨b, o, none⟩ = w.cell? ⟨b, o, none⟩) ∧ (∀ b o, b < B → w1.frozen? ⟨b, o, none⟩ = w.frozen? ⟨b, o, none⟩) :=
  ⟨fun b o h => hb.cell (p := ⟨b, o, none⟩) h, fun b o h => hb.frozen (p := ⟨b, o, none⟩) h⟩
theorem below_drewN {B : Nat} {a w : World} (h : Below B a w) (n : Nat) : Below B a (w.drewN n) := ⟨h.os, h.tape, h.output, h.size, h.block⟩
theorem below_from_drewN {B : Nat} {w w1 : World} {n : Nat} (h : Below B (w.drewN n) w1) : Below B w w1 := ⟨h.os, h.tape, h.output, h.size, h.block⟩
theorem cell_alloc {w : World} {a : Addr} {v : Value} (h : w.cell? a = some v) (o : Obj) : (w.alloc o).cell? a = some v := (World.cell?_alloc_lt w o a (World.block_lt_of_cell? w a h)).trans h
theorem ret_bool {a b : Bool} (h : a = b) : Ending.returned (.bool a) = .returned (.bool b) := by rw [h]
theorem ret_int {k : IntKind} {a b : Int} (h : a = b) : Ending.returned (.int k a) = .returned (.int k b) := by rw [h]
theorem drew0 (w : World) : ∃ k, w = w.drewN k := ⟨0, rfl⟩
theorem drew1 (w : World) (a : Nat) : ∃ k, w.drewN a = w.drewN k := ⟨a, rfl⟩
theorem drew2 (w : World) (a b : Nat) : ∃ k, (w.drewN a).drewN b = w.drewN k := ⟨_, World.drewN_drewN _ _ _⟩
theorem size_drewN (w : World) (n : Nat) : (w.drewN n).heap.size = w.heap.size := rfl

theorem results_cell {fn : Func} {p : Tmp} {ty : TypeId} (h : fn.results = #[.cell p ty]) (tmps : Array Value) (a : Addr) (hp : tmps.getD p undef = .pointer (some a)) (P : Program) (w : World) :
    (results fn tmps).run P w = (loadVar ty a).run P w := by
  simp only [results, h]
  have hq : tmps[p]?.getD undef = .pointer (some a) := by rw [← hp]; simp
  simp [hq, asAddr]

/-- Block g is just the cells cs of element type t, none of them frozen. -/
def Blk (w : World) (g : Nat) (t : TypeId) (cs : Array Value) : Prop := w.heap[g]? = some (.cells cs t (0, 0))
section
variable {w w' : World} {g : Nat} {t : TypeId} {cs : Array Value}
theorem Blk.lt (h : Blk w g t cs) : g < w.heap.size := by
  unfold Blk at h
  rcases Nat.lt_or_ge g w.heap.size with hlt | hge
  · exact hlt
  · rw [Array.getElem?_eq_none hge] at h; cases h
theorem Blk.cell (h : Blk w g t cs) (i : Nat) : w.cell? ⟨g, i, none⟩ = cs[i]? := cell_of_row w g i cs t (0, 0) h
theorem Blk.frozen (h : Blk w g t cs) (i : Nat) : w.frozen? ⟨g, i, none⟩ = false := by
  unfold Blk at h
  simp [World.frozen?, h]
theorem Blk.new (w : World) (t : TypeId) (cs : Array Value) : Blk (w.alloc (.cells cs t)) w.heap.size t cs := heap_alloc_new w _
theorem Blk.new' {g : Nat} (w : World) (t : TypeId) (cs : Array Value) (hg : w.heap.size = g) : Blk (w.alloc (.cells cs t)) g t cs := by subst hg; exact heap_alloc_new w _
theorem Blk.drewN (h : Blk w g t cs) (n : Nat) : Blk (w.drewN n) g t cs := h
theorem Blk.alloc (h : Blk w g t cs) (o : Obj) : Blk (w.alloc o) g t cs := (Below.heap_alloc w o g h.lt).trans h
theorem Blk.set_ (h : Blk w g t cs) (i : Nat) (u : Value) : Blk (w.setCell ⟨g, i, none⟩ u) g t (cs.setIfInBounds i u) := by
  unfold Blk at h ⊢
  simp [World.setCell, Array.getElem?_modify, h]
theorem Blk.far (h : Blk w g t cs) {p : Addr} (hp : g ≠ p.block) (u : Value) : Blk (w.setCell p u) g t cs := (Below.heap_setCell w p u g hp).trans h
theorem Blk.below {B : Nat} (h : Blk w g t cs) (hb : Below B w w') (hg : g < B) : Blk w' g t cs := (hb.block g hg).trans h
theorem Blk.grown {row : Option Nat} (h : Blk w g t cs) (hb : w.grownBy w' row) (hg : some g ≠ row) : Blk w' g t cs := (hb.block g h.lt hg).trans h
theorem Blk.set4 {a0 a1 a2 a3 : Value} (h : Blk w g t #[a0, a1, a2, a3]) (x0 x1 x2 x3 : Value) :
    Blk ((((w.setCell ⟨g, 0, none⟩ x0).setCell ⟨g, 1, none⟩ x1).setCell ⟨g, 2, none⟩ x2).setCell ⟨g, 3, none⟩ x3) g t #[x0, x1, x2, x3] := by
  have := (((h.set_ 0 x0).set_ 1 x1).set_ 2 x2).set_ 3 x3
  simpa using this
theorem Blk.ne_ {g' : Nat} {t' : TypeId} {cs' : Array Value} (h : Blk w g t cs) (h' : Blk w g' t' cs') (hne : t ≠ t') : g ≠ g' := by
  rintro rfl
  unfold Blk at h h'
  rw [h] at h'
  injection h' with h'
  injection h' with _ ht
  exact hne ht
end

theorem Reads.of_blk {w : World} {g B size n : Nat} {t : TypeId} {cs : Array Value} {xs : List Value} (h : Blk w g t cs) (hg : g < B) (hx : cs.toList = xs) (hn : xs.length = n * size) : Reads w B size (some ⟨g, 0, none⟩) n xs :=
  ⟨hn, fun _ => ⟨g, 0, rfl, hg, fun j u hu => by rw [Nat.zero_add, h.cell, ← Array.getElem?_toList, hx]; exact hu⟩⟩

/-- What is owned stays owned behind a call that turns nothing that was there. -/
theorem own_below {w w1 : World} {base : Nat} {e : TypeId} {size n : Nat} {v : Value} {xs : List Value} (h : w.ownsRow base e size v n xs) (hb : Below w.heap.size w w1) : w1.ownsRow base e size v n xs :=
  h.kept (row := none) ⟨hb.os, hb.tape, hb.output, hb.size, fun k hk _ => hb.block k hk⟩ (by cases hv : v.ownBlock <;> simp)

/-- Some bool, and what it is good for. -/
def RetIf (p : Prop) (w : World) (e : Ending) (w' : World) : Prop := ∃ b : Bool, e = .returned (.bool b) ∧ (b = true → p) ∧ Below w.heap.size w w'

/-- Integers as cells. -/
def ints (l : List Int) : List Value := l.map (Value.int .i64)
section
variable {w : World} {B n : Nat} {A : Option Addr}
theorem Reads.len_ints {l : List Int} (h : Reads w B 1 A n (ints l)) : l.length = n := by have := h.1; simpa [ints] using this
theorem Reads.int_at {l : List Int} (h : Reads w B 1 A n (ints l)) {k : Nat} (hk : k < n) :
    ∃ b off, A = some ⟨b, off, none⟩ ∧ b < B ∧ w.cell? ⟨b, off + k, none⟩ = some (.int .i64 (l[k]?.getD 0)) := by
  obtain ⟨b, off, e, hb, hc⟩ := h.2 (by omega)
  have hl : k < l.length := by rw [h.len_ints]; exact hk
  refine ⟨b, off, e, hb, hc k _ ?_⟩
  simp [ints, hl]
end

end Go.Proofs.Ytbalhkbpmahkgaa

namespace Go.Proofs.Ytbalhkbpmahkgaa
open Go.RowKit Go.ChangeShapes Go.WideShapes Go.ChangeAt Go.Joins

theorem Try.own : ownKnob Try.prog.godebug = none := by kernel_rfl
theorem Try.laidOut : laidOutB Try.prog = true := by kernel_rfl

section
variable {H : Type} {enc : TypeId × Value → H}
theorem trodAll_stays {W W' : World} (hb : Below W.heap.size W W') (ts : List TypeId) : ∀ (vs : List Value) (ds : List (DataW H)) (ps : List MemPlace),
    (∀ t ∈ ts, Try.prog.readableRec t = true ∧ t < Try.prog.types.size) → DataW.TrodAll enc Try.prog W 0 (fun _ => true) true ts vs ds ps → (∀ x ∈ ps, x.block < W.heap.size) →
    DataW.TrodAll enc Try.prog W' 0 (fun b => decide (b < W.heap.size)) true ts vs ds ps := by
  induction ts with
  | nil =>
    intro vs ds ps _ h _
    obtain ⟨rfl, rfl, rfl⟩ := trodAll_nil h
    rfl
  | cons t ts ih =>
    intro vs ds ps ht h hlt
    obtain ⟨v, vs', d, ds', p, q, rfl, rfl, rfl, h0, h1⟩ := trodAll_cons h
    have ht0 := ht t List.mem_cons_self
    exact trodAll_cons_mk (Below.trod Try.laidOut ht0.1 ht0.2 h0 hb (fun x hx => hlt x (List.mem_append_left _ hx))) (ih vs' ds' q (fun t' ht' => ht t' (List.mem_cons_of_mem _ ht')) h1 (fun x hx => hlt x (List.mem_append_right _ hx)))
theorem readables {ts : List TypeId} (h : (ts.all fun t => Try.prog.readableRec t && decide (t < Try.prog.types.size)) = true) : ∀ t ∈ ts, Try.prog.readableRec t = true ∧ t < Try.prog.types.size := by
  intro t ht
  have := List.all_eq_true.1 h t ht
  simp only [Bool.and_eq_true, decide_eq_true_eq] at this
  exact this

/-- The row's last step: the call has returned true and turned nothing that was there. -/
theorem law_post {f : Func} {s : ChangeSpec} {W W' : World} {args : Array Value} {ds gs : List (DataW H)} {before : List MemPlace}
    (hr : f.resultTypes.toList = [4]) (hn : f.resultTypes.size = 1) (hv : s.vars = []) (hts : (f.params.toList.all fun t => Try.prog.readableRec t && decide (t < Try.prog.types.size)) = true)
    (hW : DataW.Whole enc Try.prog f.params.toList s.vars false W args.toList ds gs before) (hfr : (s.fn H (ds ++ gs)).results = [.lit (.bool true)]) (hfa : (s.fn H (ds ++ gs)).args = ds) (hfv : (s.fn H (ds ++ gs)).vars = [])
    (hb : Below W.heap.size W W') : s.post enc Try.prog f false true false false W args (.bool true) W' := by
  have hW' := hW
  obtain ⟨p, q, hA, hV, rfl, _, _⟩ := hW
  rw [hv] at hV
  obtain ⟨rfl, rfl⟩ := trodVars_none hV
  rw [List.append_nil] at hW'
  have hlt : ∀ x ∈ p, x.block < W.heap.size := fun x hx => by simpa using hW'.lt x hx
  refine ⟨ds, [], p, [], p, [], hW', ?_, ?_, ?_, hb.frame _, fun h => by cases h⟩
  · rw [hr, hfr, hn]; exact trodAll_mk1 (shut_bool Try.underlying4 true)
  · rw [hfa]; exact trodAll_stays hb _ _ _ _ (readables hts) hA hlt
  · rw [hv, hfv]; rfl

theorem cells_int : Try.prog.cellsOf 3 = 1 := by kernel_rfl
theorem addr_form {w : World} {a : Addr} {u : Value} (h : w.cell? (a.add 0) = some u) : a = ⟨a.block, a.off, none⟩ := by
  obtain ⟨b, off, spot⟩ := a
  have hspot : spot = none := World.cell?_spot h
  subst hspot
  rfl
theorem reads_of {w : World} {size n : Nat} {a : Addr} {xs : List Value} (hs : 0 < size) (hl : xs.length = n * size) (hc : ∀ j u, xs[j]? = some u → w.cell? (a.add j) = some u) : Reads w w.heap.size size (some a) n xs := by
  refine ⟨hl, fun hn => ?_⟩
  have h0 : 0 < xs.length := by rw [hl]; exact Nat.mul_pos hn hs
  have hc0 := hc 0 xs[0] (List.getElem?_eq_getElem h0)
  have ha := addr_form hc0
  refine ⟨a.block, a.off, by rw [← ha], ?_, fun j u hu => ?_⟩
  · have := World.block_lt_of_cell? w _ hc0
    rw [block_of_add] at this
    exact this
  · have := hc j u hu
    rw [ha, Addr.add_lit] at this
    exact this

theorem open_ints_reads {W : World} {sp : Nat → Bool} {hd : Bool} {n : Nat} {v0 : Value} {y : DataW H × List MemPlace} (h : DataW.trod enc Try.prog W 0 sp hd n 28 [v0] = some y) :
    ∃ A len cap l, v0 = .slice A len cap ∧ Reads W W.heap.size 1 A len (ints l) ∧ len ≤ maxLen := by
  rcases open_ints Try.underlying28 Try.underlying3 cells_int h with ⟨hcs, _⟩ | ⟨a, len, cap, zs, hcs, _, hl, hm, hz, _, hcell, _⟩
  · simp at hcs
    subst hcs
    exact ⟨none, 0, 0, [], rfl, Reads.nil_, by unfold maxLen; omega⟩
  · simp at hcs
    subst hcs
    refine ⟨some a, len, cap, zs.take len, rfl, reads_of (by omega) ?_ ?_, by omega⟩
    · simp only [ints, List.length_map, List.length_take, hz]; split <;> omega
    · intro j u hu
      simp only [ints, List.getElem?_map, List.getElem?_take] at hu
      split at hu
      · cases hzj : zs[j]? with
        | none => rw [hzj] at hu; simp at hu
        | some z =>
          rw [hzj] at hu
          simp at hu
          subst hu
          have hj := (List.getElem?_eq_some_iff.1 hzj).1
          rw [hcell j hj]
          simp [hzj]
      · simp at hu
end
end Go.Proofs.Ytbalhkbpmahkgaa

namespace Go.Proofs.Ytbalhkbpmahkgaa

/-- A value: cost and size. -/
structure Vl where
  c : Int
  s : Int
theorem Vl.ext' {a b : Vl} (h1 : a.c = b.c) (h2 : a.s = b.s) : a = b := by
  cases a; cases b; simp at h1 h2; simp [h1, h2]
def vle (a b : Vl) : Prop := a.c < b.c ∨ (a.c = b.c ∧ a.s ≤ b.s)
def vtop : Vl := ⟨1099511627776, 0⟩
/-- Ordinary: both numbers from 0 to what is infinite. -/
def Ordy (v : Vl) : Prop := 0 ≤ v.c ∧ v.c ≤ 1099511627776 ∧ 0 ≤ v.s ∧ v.s ≤ 1099511627776
/-- Ordinary, and of infinite ones only the one. -/
def Nrm (v : Vl) : Prop := Ordy v ∧ (v.c = 1099511627776 → v.s = 0)
theorem Nrm.top : Nrm vtop := ⟨⟨by decide, by decide, by decide, by decide⟩, fun _ => rfl⟩
theorem vle.refl (a : Vl) : vle a a := .inr ⟨rfl, Int.le_refl _⟩
theorem vle.trans {a b c : Vl} (h : vle a b) (h' : vle b c) : vle a c := by unfold vle at *; omega
theorem vle.antisymm {a b : Vl} (h : vle a b) (h' : vle b a) : a = b := by
  unfold vle at *
  exact Vl.ext' (by omega) (by omega)
theorem vle.total (a b : Vl) : vle a b ∨ vle b a := by unfold vle; omega
theorem Nrm.le_top {a : Vl} (h : Nrm a) : vle a vtop := by
  obtain ⟨⟨h1, h2, h3, h4⟩, h5⟩ := h
  by_cases e : a.c = 1099511627776
  · exact .inr ⟨e, by rw [h5 e]; exact Int.le_refl _⟩
  · exact .inl (by show a.c < 1099511627776; omega)
def vstep (o v : Vl) : Vl := ⟨min (o.c + v.c) 1099511627776, min (o.s + v.s) 1099511627776⟩
def vfin (o : Vl) : Vl := if o.c = 1099511627776 then vtop else o
/-- What a hyperedge of this cost makes of these values. -/
def comb (cost : Int) (l : List Vl) : Vl := vfin (l.foldl vstep ⟨min cost 1099511627776, 1⟩)

theorem vstep_ord {o v : Vl} (ho : Ordy o) (hv : Ordy v) : Ordy (vstep o v) := by
  unfold Ordy at *
  simp only [vstep]
  omega
theorem fold_ord : ∀ {l : List Vl} {o : Vl}, Ordy o → (∀ v ∈ l, Ordy v) → Ordy (l.foldl vstep o)
  | [], _, h, _ => h
  | v :: l, o, h, hl => fold_ord (l := l) (vstep_ord h (hl v (by simp))) (fun u hu => hl u (by simp [hu]))
theorem start_ord {cost : Int} (h : 0 ≤ cost) : Ordy ⟨min cost 1099511627776, 1⟩ := by
  unfold Ordy
  simp only
  omega
theorem vfin_nrm {o : Vl} (h : Ordy o) : Nrm (vfin o) := by
  unfold vfin
  split
  · exact Nrm.top
  · exact ⟨h, fun e => by contradiction⟩
theorem comb_nrm {cost : Int} {l : List Vl} (h : 0 ≤ cost) (hl : ∀ v ∈ l, Ordy v) : Nrm (comb cost l) := vfin_nrm (fold_ord (start_ord h) hl)

/-- The order of what is summed: infinite costs are alike. -/
def vleS (a b : Vl) : Prop := a.c < b.c ∨ (a.c = b.c ∧ (1099511627776 ≤ a.c ∨ a.s ≤ b.s))
theorem vleS.of {a b : Vl} (h : vle a b) : vleS a b := by unfold vle at h; unfold vleS; omega
theorem vstep_mono {o o' v v' : Vl} (ho : vleS o o') (hv : vle v v') (h1 : Ordy o) (h2 : Ordy o') (h3 : Ordy v) (h4 : Ordy v') : vleS (vstep o v) (vstep o' v') := by
  unfold vleS vle Ordy at *
  simp only [vstep]
  omega
/-- Two lists, the first nowhere greater. -/
inductive LeL : List Vl → List Vl → Prop
  | nil : LeL [] []
  | cons {a b : Vl} {l m : List Vl} : vle a b → LeL l m → LeL (a :: l) (b :: m)
theorem LeL.refl : ∀ l : List Vl, LeL l l
  | [] => .nil
  | a :: l => .cons (vle.refl a) (LeL.refl l)
theorem LeL.map {α : Type} {f g : α → Vl} : ∀ {l : List α}, (∀ x ∈ l, vle (f x) (g x)) → LeL (l.map f) (l.map g)
  | [], _ => .nil
  | x :: l, h => .cons (h x (by simp)) (LeL.map (l := l) fun y hy => h y (by simp [hy]))
theorem LeL.set : ∀ {l : List Vl} {i : Nat} {a b : Vl}, l[i]? = some a → vle b a → LeL (l.set i b) l
  | [], _, _, _, h, _ => by simp at h
  | x :: l, 0, a, b, h, hb => by
    simp at h
    subst h
    exact .cons hb (LeL.refl l)
  | x :: l, i + 1, a, b, h, hb => by
    simp at h
    exact .cons (vle.refl x) (LeL.set h hb)
theorem fold_mono {l m : List Vl} (h : LeL l m) : ∀ {o o' : Vl}, vleS o o' → Ordy o → Ordy o' → (∀ v ∈ l, Ordy v) → (∀ v ∈ m, Ordy v) → vleS (l.foldl vstep o) (m.foldl vstep o') := by
  induction h with
  | nil => intro o o' h _ _ _ _; exact h
  | cons hab _ ih =>
    intro o o' h h1 h2 h3 h4
    exact ih (vstep_mono h hab h1 h2 (h3 _ (by simp)) (h4 _ (by simp))) (vstep_ord h1 (h3 _ (by simp))) (vstep_ord h2 (h4 _ (by simp))) (fun v hv => h3 v (by simp [hv])) (fun v hv => h4 v (by simp [hv]))
theorem vfin_mono {a b : Vl} (h : vleS a b) (ha : Ordy a) (hb : Ordy b) : vle (vfin a) (vfin b) := by
  unfold vfin
  unfold vleS at h
  have h1 := ha.2.1
  have h2 := hb.2.1
  split
  · rename_i e
    split
    · exact vle.refl _
    · omega
  · rename_i e
    split
    · exact .inl (by show a.c < 1099511627776; omega)
    · unfold vle; omega
theorem comb_mono {cost : Int} {l m : List Vl} (h0 : 0 ≤ cost) (h : LeL l m) (h3 : ∀ v ∈ l, Ordy v) (h4 : ∀ v ∈ m, Ordy v) : vle (comb cost l) (comb cost m) :=
  vfin_mono (fold_mono h (vleS.of (vle.refl _)) (start_ord h0) (start_ord h0) h3 h4) (fold_ord (start_ord h0) h3) (fold_ord (start_ord h0) h4)
theorem comb_mono_cost {cost cost' : Int} {l : List Vl} (h0 : 0 ≤ cost) (hc : cost ≤ cost') (h3 : ∀ v ∈ l, Ordy v) : vle (comb cost l) (comb cost' l) :=
  vfin_mono (fold_mono (LeL.refl l) (by unfold vleS; simp only; omega) (start_ord h0) (start_ord (by omega)) h3 h3) (fold_ord (start_ord h0) h3) (fold_ord (start_ord (by omega)) h3)
theorem comb_mono_cost2 {cost cost' : Int} {l m : List Vl} (h0 : 0 ≤ cost) (hc : cost ≤ cost') (h : LeL l m) (h3 : ∀ v ∈ l, Ordy v) (h4 : ∀ v ∈ m, Ordy v) : vle (comb cost l) (comb cost' m) :=
  (comb_mono_cost h0 hc h3).trans (comb_mono (by omega) h h3 h4)
theorem fold_ge : ∀ {l : List Vl} {o : Vl}, Ordy o → (∀ v ∈ l, Ordy v) → o.c ≤ (l.foldl vstep o).c ∧ o.s ≤ (l.foldl vstep o).s
  | [], _, _, _ => ⟨Int.le_refl _, Int.le_refl _⟩
  | v :: l, o, h, hl => by
    have hv := hl v (by simp)
    have ih := fold_ge (l := l) (vstep_ord h hv) (fun u hu => hl u (by simp [hu]))
    unfold Ordy at h hv
    simp only [List.foldl_cons]
    have h1 : o.c ≤ (vstep o v).c := by simp only [vstep]; omega
    have h2 : o.s ≤ (vstep o v).s := by simp only [vstep]; omega
    omega
theorem fold_sup : ∀ {l : List Vl} {o v : Vl}, Ordy o → (∀ v ∈ l, Ordy v) → v ∈ l → v.c ≤ (l.foldl vstep o).c ∧ min (v.s + o.s) 1099511627776 ≤ (l.foldl vstep o).s
  | [], _, _, _, _, h => by simp at h
  | u :: l, o, v, h, hl, hv => by
    have hu := hl u (by simp)
    have hs := vstep_ord h hu
    simp only [List.foldl_cons]
    rcases List.mem_cons.1 hv with rfl | hv
    · have := fold_ge (l := l) hs (fun u hu => hl u (by simp [hu]))
      unfold Ordy at h hu
      have h1 : v.c ≤ (vstep o v).c := by simp only [vstep]; omega
      have h2 : min (v.s + o.s) 1099511627776 ≤ (vstep o v).s := by simp only [vstep]; omega
      omega
    · have ih := fold_sup (l := l) hs (fun u hu => hl u (by simp [hu])) hv
      unfold Ordy at h hu
      have h2 : o.s ≤ (vstep o u).s := by simp only [vstep]; omega
      omega
/-- A combination is not less than what it combines. -/
theorem comb_sup {cost : Int} {l : List Vl} {v : Vl} (h0 : 0 ≤ cost) (hl : ∀ v ∈ l, Ordy v) (hv : v ∈ l) (hn : Nrm v) : vle v (comb cost l) := by
  have h1 := fold_sup (start_ord h0) hl hv
  have h2 := fold_ord (l := l) (start_ord h0) hl
  have h3 := hl v hv
  unfold comb vfin
  split
  · exact hn.le_top
  · unfold Ordy at *
    simp only at h1
    unfold vle
    omega
/-- And it is greater, where nothing is infinite. -/
theorem comb_sup' {cost : Int} {l : List Vl} {v : Vl} (h0 : 0 ≤ cost) (hl : ∀ v ∈ l, Ordy v) (hv : v ∈ l) (h : (comb cost l).c < 1099511627776) (hs : (comb cost l).s < 1099511627776) : v.c < (comb cost l).c ∨ (v.c = (comb cost l).c ∧ v.s < (comb cost l).s) := by
  have h1 := fold_sup (start_ord h0) hl hv
  unfold comb vfin at *
  split at h
  · exact absurd h (by decide)
  · rename_i e
    rw [if_neg e] at hs ⊢
    simp only at h1
    omega
/-- What is finite combines finite ones alone. -/
theorem comb_finite {cost : Int} {l : List Vl} {v : Vl} (h0 : 0 ≤ cost) (hl : ∀ v ∈ l, Ordy v) (hv : v ∈ l) (h : (comb cost l).c < 1099511627776) : v.c < 1099511627776 := by
  have h1 := fold_sup (start_ord h0) hl hv
  unfold comb vfin at *
  split at h
  · exact absurd h (by decide)
  · omega
theorem comb_cost_lt {cost : Int} {l : List Vl} (hl : ∀ v ∈ l, Ordy v) (h0 : 0 ≤ cost) (h : (comb cost l).c < 1099511627776) : cost < 1099511627776 ∧ 1 ≤ (comb cost l).s := by
  have h1 := fold_ge (start_ord h0) hl
  unfold comb vfin at *
  split at h
  · exact absurd h (by decide)
  · rename_i e
    rw [if_neg e]
    simp only at h1
    omega
end Go.Proofs.Ytbalhkbpmahkgaa

namespace Go.Proofs.Ytbalhkbpmahkgaa
open Go.RowKit Go.ChangeMaps Go.MapKept Go.WideShapes Go.Maps
open Go.WideElems (Fit rd rg pl rd_val)

/-- The datum is the function f. -/
def FunOf (D : DataW Unit) (f : Int → Option Nat) : Prop :=
  IsMap D ∧ ∀ k : Int, Maps.has D (.int .i64 k) = (f k).isSome ∧ D.atKey (.int .i64 k) (.lit (.int .i64 0)) = .lit (.int .i64 ((f k).getD 0 : Nat))
/-- Block b is a map of at most n entries: the function f. -/
def MapI (w : World) (b n : Nat) (f : Int → Option Nat) : Prop :=
  ∃ D : DataW Unit, w.ownsMap Try.prog 3 (plainElem Try.prog 3) b n D ∧ FunOf D f

theorem intK : Keyed Try.prog 3 := int_keyed Try.underlying3
theorem zeroI (w : World) : (zeroValue 3).run Try.prog w = .ok (.int .i64 0) w := by kernel_rfl
theorem keyI {k : Int} (h : (Lit.int .i64 k).wf = true) : keyOf Try.prog 3 (.int .i64 k) = some (.int .i64 k) := keyOf_int_mk Try.underlying3 h
theorem wfN {n : Nat} (h : n ≤ 9000000000000000000) : (Lit.int .i64 (n : Int)).wf = true := by
  simp [Lit.wf, IntKind.min, IntKind.max, IntKind.signed, IntKind.bits]
  omega

/-- f with k sent to v. -/
def fput (f : Int → Option Nat) (k : Int) (v : Nat) : Int → Option Nat := fun x => if x = k then some v else f x
/-- f without k. -/
def fdel (f : Int → Option Nat) (k : Int) : Int → Option Nat := fun x => if x = k then none else f x

theorem keyLit (k : Int) : WideAt.IsKeyLit (.int .i64 k) := trivial
theorem lit_ne {x k : Int} (h : x ≠ k) : (Lit.int .i64 x) ≠ .int .i64 k := fun e => h (by injection e)
theorem FunOf.put {D : DataW Unit} {f : Int → Option Nat} (h : FunOf D f) (k : Int) (v : Nat) : FunOf (D.put (.int .i64 k) (.lit (.int .i64 v))) (fput f k v) := by
  refine ⟨h.1.put _ _, fun x => ?_⟩
  by_cases e : x = k
  · subst e
    rw [has_put_same h.1 (keyLit x), atKey_put_same h.1 (keyLit x)]
    simp [fput]
  · rw [has_put_other (lit_ne e), atKey_put_other (lit_ne e)]
    simp only [fput, if_neg e]
    exact h.2 x
theorem FunOf.del {D : DataW Unit} {f : Int → Option Nat} (h : FunOf D f) (k : Int) : FunOf (D.del (.int .i64 k)) (fdel f k) := by
  refine ⟨h.1.del _, fun x => ?_⟩
  by_cases e : x = k
  · subst e
    rw [has_del_same, atKey_del_same]
    simp [fdel]
  · rw [has_del_other (lit_ne e), atKey_del_other (lit_ne e)]
    simp only [fdel, if_neg e]
    exact h.2 x

theorem own_size {w : World} {b n : Nat} {D : DataW Unit} (h : w.ownsMap Try.prog 3 (plainElem Try.prog 3) b n D) : w.ownsMap Try.prog 3 (plainElem Try.prog 3) b (Maps.size D) D := by
  obtain ⟨es, clock, hb, F, _, hD⟩ := h
  refine ⟨es, clock, hb, F, ?_, hD⟩
  rw [hD]
  simp [Maps.size, length_sorted]

/-- Among different stamps each is found where it stands. -/
theorem born_at : ∀ {l : List MapEntry}, (l.map (·.born)).Nodup → ∀ {j : Nat} {e : MapEntry}, l[j]? = some e → l.findIdx? (fun x => (x.born : Int) == (e.born : Int)) = some j
  | [], _, _, _, h => by simp at h
  | a :: r, hn, 0, e, h => by
    simp at h
    subst h
    simp [List.findIdx?_cons]
  | a :: r, hn, j + 1, e, h => by
    simp at h hn
    have hne : ((a.born : Int) == (e.born : Int)) = false := by
      rw [beq_eq_false_iff_ne]
      intro he
      exact hn.1 e (List.mem_of_getElem? h) (by omega)
    have ih := born_at (by simpa using hn.2) h
    rw [List.findIdx?_cons, hne]
    simp [ih]
theorem modify_at {α : Type} {f g : α → α} {l : Array α} {j : Nat} {a : α} (h : l[j]? = some a) (hfg : f a = g a) : l.modify j f = l.modify j g := by
  apply Array.ext_getElem?
  intro i
  rw [Array.getElem?_modify, Array.getElem?_modify]
  by_cases e : j = i
  · subst e
    rw [if_pos rfl, if_pos rfl, h]
    simp [hfg]
  · rw [if_neg e, if_neg e]
theorem modify_id {α : Type} {f : α → α} {l : Array α} {j : Nat} {a : α} (h : l[j]? = some a) (hf : f a = a) : l.modify j f = l := by
  apply Array.ext_getElem?
  intro i
  rw [Array.getElem?_modify]
  by_cases e : j = i
  · subst e
    rw [if_pos rfl, h]
    simp [hf]
  · rw [if_neg e]
theorem setBlock_id {w : World} {b : Nat} {es : Array MapEntry} {c : Nat} (h : w.heap[b]? = some (.map es c)) : setBlock w b (.map es c) = w := by
  have e : w.heap.setIfInBounds b (.map es c) = w.heap := by
    apply Array.ext_getElem?
    intro i
    by_cases hi : i = b
    · subst hi
      exact (heap_setBlock_same h _).trans h.symm
    · exact heap_setBlock_other h _ hi
  unfold setBlock
  rw [e]

section
variable {w w' : World} {b n : Nat} {f : Int → Option Nat}
theorem MapI.lt (h : MapI w b n f) : b < w.heap.size := let ⟨_, h1, _⟩ := h; h1.lt
theorem MapI.mono (h : MapI w b n f) {n' : Nat} (hn : n ≤ n') : MapI w b n' f := let ⟨D, h1, h2⟩ := h; ⟨D, h1.mono hn, h2⟩
theorem MapI.made (w : World) : MapI (w.alloc (.map #[] 0)) w.heap.size 0 fun _ => none :=
  ⟨.map [], World.ownsMap_made _ _ _ _, isMap_empty, fun _ => ⟨rfl, rfl⟩⟩
theorem MapI.keep (h : MapI w b n f) (hb : w'.heap[b]? = w.heap[b]?) : MapI w' b n f := by
  obtain ⟨D, ⟨es, clock, h1, h2⟩, h3⟩ := h
  exact ⟨D, ⟨es, clock, hb.trans h1, h2⟩, h3⟩
theorem MapI.drewN (h : MapI w b n f) (k : Nat) : MapI (w.drewN k) b n f := h
theorem MapI.drew (h : MapI w b n f) : MapI w.drew b n f := h
theorem MapI.alloc (h : MapI w b n f) (o : Obj) : MapI (w.alloc o) b n f := h.keep (Below.heap_alloc w o b h.lt)
theorem MapI.setCell (h : MapI w b n f) {p : Addr} (hp : b ≠ p.block) (u : Value) : MapI (w.setCell p u) b n f := h.keep (Below.heap_setCell w p u b hp)
theorem MapI.ne_blk {g : Nat} {t : TypeId} {cs : Array Value} (h : MapI w b n f) (hg : Blk w g t cs) : b ≠ g := by
  rintro rfl
  obtain ⟨D, ⟨es, clock, h1, _⟩, _⟩ := h
  unfold Blk at hg
  rw [h1] at hg
  injection hg with hg
  cases hg
theorem MapI.ne_own {base : Nat} {e : TypeId} {size m : Nat} {v : Value} {xs : List Value} (h : MapI w b n f) (ho : w.ownsRow base e size v m xs) : v.ownBlock ≠ some b := by
  rcases ho.2 with ⟨rfl, _⟩ | ⟨g', cap, cur, rfl, _, hh, _⟩
  · simp [Value.ownBlock]
  · intro he
    have : g' = b := by simpa [Value.ownBlock] using he
    subst this
    exact h.ne_blk (g := g') (t := e) (cs := cur) hh rfl

set_option maxRecDepth 100000 in
theorem MapI.look_ok (h : MapI w b n f) {k : Int} (hk : (Lit.int .i64 k).wf = true) :
    (Instr.lookup 72 (.map (some b)) (.int .i64 k) true).run Try.prog w = .ok (.tuple #[.int .i64 ((f k).getD 0 : Nat), .bool (f k).isSome]) w := by
  obtain ⟨D, h1, h2⟩ := h
  obtain ⟨v, ps, hrun, hv⟩ := h1.look_ok intK Try.underlying72 (zeroI w) (plainElem_int Try.underlying3 (by decide)) (keyI hk)
  obtain ⟨c, rfl, hc, _⟩ := plainElem_int_inv Try.underlying3 hv
  simp only [Prod.mk.injEq] at hc
  rw [(h2.2 k).2] at hc
  rw [hrun, (h2.2 k).1]
  injection hc.1 with hc
  injection hc with _ hc
  rw [hc]
set_option maxRecDepth 100000 in
theorem MapI.look (h : MapI w b n f) {k : Int} (hk : (Lit.int .i64 k).wf = true) :
    (Instr.lookup 72 (.map (some b)) (.int .i64 k) false).run Try.prog w = .ok (.int .i64 ((f k).getD 0 : Nat)) w := by
  obtain ⟨D, h1, h2⟩ := h
  obtain ⟨c, hrun, hc, _⟩ := h1.lookup_int intK Try.underlying72 Try.underlying3 (zeroI w) (keyI hk)
  rw [(h2.2 k).2] at hc
  rw [hrun]
  injection hc with hc
  injection hc with _ hc
  rw [hc]
theorem turned_block {w w' : World} {b : Nat} (h : w.mapTurned w' b) : (∀ i, i ≠ b → w'.heap[i]? = w.heap[i]?) ∧ w'.heap.size = w.heap.size ∧ w'.os = w.os ∧ w'.tape = w.tape ∧ w'.output = w.output := by
  obtain ⟨es, clock, es', clock', hb, rfl⟩ := h
  exact ⟨fun i hi => heap_setBlock_other hb _ hi, by simp [setBlock], rfl, rfl, rfl⟩
/-- A store at a new key, or at one that is there. -/
theorem MapI.put (h : MapI w b n f) {k : Int} (hk : (Lit.int .i64 k).wf = true) {v : Nat} (hv : v ≤ 9000000000000000000) (hn : n < maxLen) :
    ∃ w', (Instr.mapUpdate 72 (.map (some b)) (.int .i64 k) (.int .i64 v)).run Try.prog w = .ok () w' ∧ MapI w' b (if (f k).isSome then n else n + 1) (fput f k v) ∧ w.mapTurned w' b := by
  obtain ⟨D, h1, h2⟩ := h
  obtain ⟨w', hrun, h3, h4⟩ := h1.store intK Try.underlying72 hn (keyI hk) (plainElem_int Try.underlying3 (wfN hv))
  refine ⟨w', hrun, ⟨_, ?_, h2.put k v⟩, h4⟩
  have hs := h1.size_le
  have h5 := own_size h3
  rw [size_put (h1.tidy intK), (h2.2 k).1] at h5
  refine h5.mono ?_
  split <;> omega
theorem MapI.drop (h : MapI w b n f) {k : Int} (hk : (Lit.int .i64 k).wf = true) (ty : TypeId) :
    ∃ w', (Builtin.delete_ #[72, 3] ty #[.map (some b), .int .i64 k]).run Try.prog w = .ok (.tuple #[]) w' ∧ MapI w' b n (fdel f k) ∧ w.mapTurned w' b := by
  obtain ⟨D, h1, h2⟩ := h
  obtain ⟨w', hrun, h3, h4⟩ := h1.drop intK Try.underlying72 (keyI hk) ty
  exact ⟨w', hrun, ⟨_, h3, h2.del k⟩, h4⟩
/-- The entry of a key that is there, found; then written, in whatever world the map is as it was. -/
theorem MapI.entry (h : MapI w b n f) {k : Int} (hk : (Lit.int .i64 k).wf = true) (hf : (f k).isSome = true) (hn : n < maxLen) :
    ∃ (v0 : Value) (st : Nat), (Instr.mapEntry 72 (.map (some b)) (.int .i64 k)).run Try.prog w = .ok (.tuple #[v0, .int .i64 st]) w ∧
      ∀ (w2 : World) (v : Nat), w2.heap[b]? = w.heap[b]? → v ≤ 9000000000000000000 →
        ∃ w', (Instr.entryStore 72 (.map (some b)) (.int .i64 st) (.int .i64 v)).run Try.prog w2 = .ok () w' ∧ MapI w' b n (fput f k v) ∧ w2.mapTurned w' b := by
  have hm := h
  have hl := h.look_ok hk
  obtain ⟨D, ⟨es, clock, hb, F, hs, hD⟩, h2⟩ := h
  obtain ⟨s1, s2, _⟩ := F.stamped
  have ht : Try.prog.underlying 72 = some (.map 3 3) := Try.underlying72
  rcases intK.find w (keyI hk) es.toList F.keys with ⟨h1, _⟩ | ⟨j, e0, h1, hj, hk0⟩
  · exfalso
    rw [hf] at hl
    simp [Instr.lookup, run_underlying ht, MapKept.run_getObj_map hb, intK.check w _ (keyI hk), h1, zeroI, Result.andThen] at hl
  · have hj' : es[j]? = some e0 := by simpa using hj
    have hsame : es.modify j (fun e => { e with key := .int .i64 k }) = es := modify_id hj' (by rw [← hk0])
    refine ⟨e0.val, e0.born, ?_, fun w2 v hw2 hv => ?_⟩
    · have := setBlock_id hb
      unfold setBlock at this
      simp [Instr.mapEntry, run_underlying ht, MapKept.run_getObj_map hb, intK.check w false (keyI hk), h1, hj', hk0, intK.stays w (keyI hk), hsame, MapKept.run_setObj_map _ hb, Result.andThen, this, goInt]
    · have hb2 := hw2.trans hb
      obtain ⟨w3, hrun, hM, hT⟩ := (hm.keep hw2).put hk hv hn
      rw [hf, if_pos rfl] at hM
      rcases intK.find w2 (keyI hk) es.toList F.keys with ⟨_, hno⟩ | ⟨j2, e2, h12, hj2, hk2⟩
      · exact absurd hk0 (hno e0 (List.mem_of_getElem? hj))
      · have hj2' : es[j2]? = some e2 := by simpa using hj2
        have hjj : j2 = j := by
          have hnd := F.stamped.2.2
          have a1 : (es.toList.map (·.key))[j2]? = some (.int .i64 k) := by rw [List.getElem?_map, hj2, Option.map_some, hk2]
          have a2 : (es.toList.map (·.key))[j]? = some (.int .i64 k) := by rw [List.getElem?_map, hj, Option.map_some, hk0]
          exact (List.getElem?_inj (List.getElem?_eq_some_iff.1 a1).1 hnd).1 (a1.trans a2.symm)
        subst hjj
        refine ⟨w3, ?_, hM, hT⟩
        rw [← hrun]
        have hidx : es.findIdx? (fun x => (x.born : Int) == (e0.born : Int)) = some j2 := by
          have := born_at s2 hj
          obtain ⟨l⟩ := es
          simpa using this
        have hmod : es.modify j2 (fun e => { e with val := .int .i64 v }) = es.modify j2 (fun e => { e with key := .int .i64 k, val := .int .i64 v }) := modify_at hj' (by rw [← hk0])
        simp [Instr.entryStore, Instr.mapUpdate, run_underlying ht, MapKept.run_getObj_map hb2, intK.check w2 false (keyI hk), h12, hj', hk0, intK.stays w2 (keyI hk), hidx, hmod, asInt, asIntOf, MapKept.run_setObj_map _ hb2, Result.andThen]
end
end Go.Proofs.Ytbalhkbpmahkgaa

namespace Go.Proofs.Ytbalhkbpmahkgaa
open Go.RowKit
variable {F G : Nat → Prop} {w w1 w' : World}

/-- Of what was there, only blocks of F are turned. -/
structure Touch (F : Nat → Prop) (w w' : World) : Prop where
  os : w'.os = w.os
  tape : w'.tape = w.tape
  output : w'.output = w.output
  size : w.heap.size ≤ w'.heap.size
  block : ∀ k, k < w.heap.size → ¬ F k → w'.heap[k]? = w.heap[k]?
theorem Touch.refl (F : Nat → Prop) (w : World) : Touch F w w := ⟨rfl, rfl, rfl, Nat.le_refl _, fun _ _ _ => rfl⟩
theorem Touch.trans (h : Touch F w w1) (h' : Touch G w1 w') (hG : ∀ k, G k → F k ∨ w.heap.size ≤ k) : Touch F w w' :=
  ⟨h'.os.trans h.os, h'.tape.trans h.tape, h'.output.trans h.output, Nat.le_trans h.size h'.size, fun k hk hF =>
    (h'.block k (Nat.lt_of_lt_of_le hk h.size) (fun g => by rcases hG k g with h | h; exact hF h; omega)).trans (h.block k hk hF)⟩
theorem Touch.mono (h : Touch F w w') (hG : ∀ k, F k → G k) : Touch G w w' := ⟨h.os, h.tape, h.output, h.size, fun k hk hn => h.block k hk (fun hf => hn (hG k hf))⟩
theorem Touch.of_below (hb : Below w.heap.size w w') : Touch F w w' := ⟨hb.os, hb.tape, hb.output, hb.size, fun k hk _ => hb.block k hk⟩
theorem Touch.below (h : Touch F w w1) (hb : Below w1.heap.size w1 w') : Touch F w w' := h.trans (Touch.of_below (F := F) hb) fun _ hk => .inl hk
theorem Touch.alloc (h : Touch F w w') (o : Obj) : Touch F w (w'.alloc o) := h.below ((Below.refl _ _).alloc (Nat.le_refl _) _)
theorem Touch.drewN (h : Touch F w w') (n : Nat) : Touch F w (w'.drewN n) := ⟨h.os, h.tape, h.output, h.size, h.block⟩
theorem Touch.setCell (h : Touch F w w') {p : Addr} (hp : F p.block ∨ w.heap.size ≤ p.block) (u : Value) : Touch F w (w'.setCell p u) :=
  h.trans (G := fun k => k = p.block) ⟨rfl, rfl, rfl, by simp [World.setCell], fun k _ hn => Below.heap_setCell w' p u k hn⟩ (fun k hk => by subst hk; exact hp)
theorem Touch.grown (h : Touch F w w1) {row : Option Nat} (hg : w1.grownBy w' row) (hr : ∀ k, row = some k → F k ∨ w.heap.size ≤ k) : Touch F w w' :=
  h.trans (G := fun k => row = some k) ⟨hg.os, hg.tape, hg.output, hg.size, fun k hk hn => hg.block k hk (fun e => hn e.symm)⟩ hr
theorem Touch.toBelow {B : Nat} (h : Touch F w w') (hF : ∀ k, F k → B ≤ k) (hB : B ≤ w.heap.size) : Below B w w' :=
  ⟨h.os, h.tape, h.output, h.size, fun k hk => h.block k (by omega) (fun hf => by have := hF k hf; omega)⟩
theorem Blk.touch {g : Nat} {t : TypeId} {cs : Array Value} (h : Blk w g t cs) (ht : Touch F w w') (hg : ¬ F g) : Blk w' g t cs := (ht.block g h.lt hg).trans h
theorem own_touch {base : Nat} {e : TypeId} {size n : Nat} {v : Value} {xs : List Value} (h : w.ownsRow base e size v n xs) (ht : Touch F w w') (hv : ∀ k, v.ownBlock = some k → ¬ F k) : w'.ownsRow base e size v n xs := by
  refine ⟨h.1, ?_⟩
  rcases h.2 with hn | ⟨g, cap, cur, rfl, hb, hgg, rest⟩
  · exact .inl hn
  · exact .inr ⟨g, cap, cur, rfl, hb, (ht.block g (Array.getElem?_eq_some_iff.1 hgg).1 (hv g rfl)).trans hgg, rest⟩
theorem own_lt {base : Nat} {e : TypeId} {size n k : Nat} {v : Value} {xs : List Value} (h : w.ownsRow base e size v n xs) (hv : v.ownBlock = some k) : k < w.heap.size := by
  rcases h.2 with ⟨rfl, _⟩ | ⟨g, cap, cur, rfl, hb, hgg, rest⟩
  · simp [Value.ownBlock] at hv
  · have : g = k := by simpa [Value.ownBlock] using hv
    subst this
    exact (Array.getElem?_eq_some_iff.1 hgg).1
theorem own_blk_ne {g : Nat} {t : TypeId} {cs : Array Value} {base : Nat} {e : TypeId} {size n : Nat} {v : Value} {xs : List Value} (h : w.ownsRow base e size v n xs) (hg : Blk w g t cs) (hne : e ≠ t) : v.ownBlock ≠ some g := by
  rcases h.2 with ⟨rfl, _⟩ | ⟨g', cap, cur, rfl, _, hh, _⟩
  · simp [Value.ownBlock]
  · intro he
    have : g' = g := by simpa [Value.ownBlock] using he
    subst this
    exact Blk.ne_ (t := e) hh hg hne rfl
end Go.Proofs.Ytbalhkbpmahkgaa

namespace Go.Proofs.Ytbalhkbpmahkgaa

section
variable {α : Type}
def swp (l : List α) (i j : Nat) : List α :=
  match l[i]?, l[j]? with
  | some a, some b => (l.set i b).set j a
  | _, _ => l
theorem swp_def {l : List α} {i j : Nat} {a b : α} (ha : l[i]? = some a) (hb : l[j]? = some b) : swp l i j = (l.set i b).set j a := by simp [swp, ha, hb]
theorem swp_length (l : List α) (i j : Nat) : (swp l i j).length = l.length := by unfold swp; split <;> simp
theorem swp_at {l : List α} {i j : Nat} (hi : i < l.length) (hj : j < l.length) (k : Nat) : (swp l i j)[k]? = if k = j then l[i]? else if k = i then l[j]? else l[k]? := by
  rw [swp_def (List.getElem?_eq_getElem hi) (List.getElem?_eq_getElem hj), List.getElem?_set, List.getElem?_set]
  simp only [List.length_set]
  by_cases h1 : j = k
  · subst h1; rw [if_pos rfl, if_pos rfl, if_pos hj, List.getElem?_eq_getElem hi]
  · rw [if_neg h1, if_neg (show ¬ k = j from fun e => h1 e.symm)]
    by_cases h2 : i = k
    · subst h2; rw [if_pos rfl, if_pos rfl, if_pos hi, List.getElem?_eq_getElem hj]
    · rw [if_neg h2, if_neg (show ¬ k = i from fun e => h2 e.symm)]
theorem set_self {l : List α} {i : Nat} {a : α} (h : l[i]? = some a) : l.set i a = l := by
  apply List.ext_getElem?
  intro k
  rw [List.getElem?_set]
  split
  · rename_i e; subst e; rw [h]; simp [(List.getElem?_eq_some_iff.1 h).1]
  · rfl
theorem set_perm' : ∀ {l : List α} {i : Nat} (_ : i < l.length) (a : α), (l.set i a).Perm (a :: l.eraseIdx i)
  | [], _, h, _ => absurd h (Nat.not_lt_zero _)
  | _ :: _, 0, _, _ => List.Perm.refl _
  | x :: l, i + 1, h, a => ((set_perm' (l := l) (i := i) (by simpa using h) a).cons x).trans (List.Perm.swap a x _)
theorem get_perm' {l : List α} {i : Nat} {a : α} (h : l[i]? = some a) : l.Perm (a :: l.eraseIdx i) := by
  have := set_perm' (List.getElem?_eq_some_iff.1 h).1 a
  rwa [set_self h] at this
theorem swp_perm {l : List α} (i j : Nat) : (swp l i j).Perm l := by
  cases ha : l[i]? with
  | none => simp [swp, ha]
  | some a =>
    cases hb : l[j]? with
    | none => simp [swp, ha, hb]
    | some b =>
      rw [swp_def ha hb]
      by_cases e : i = j
      · subst e
        rw [ha] at hb
        injection hb with hb
        subst hb
        rw [set_self ha, set_self ha]
      · have hil := (List.getElem?_eq_some_iff.1 ha).1
        have hjl := (List.getElem?_eq_some_iff.1 hb).1
        have h1 : (l.set i b)[j]? = some b := by rw [List.getElem?_set, if_neg e, hb]
        have h2 := get_perm' h1
        have h3 := set_perm' (l := l.set i b) (i := j) (by simpa using hjl) a
        have h4 := (h2.symm.trans (set_perm' hil b)).cons_inv
        exact h3.trans ((h4.cons a).trans (get_perm' ha).symm)

/-- An order by 'comes before'. -/
structure Ord (bf : α → α → Bool) : Prop where
  trans : ∀ {a b c : α}, bf b a = false → bf c b = false → bf c a = false
  asym : ∀ {a b : α}, bf a b = true → bf b a = false
variable {bf : α → α → Bool}
theorem Ord.irr (O : Ord bf) (a : α) : bf a a = false := by
  cases h : bf a a
  · rfl
  · exact h ▸ O.asym h
/-- What stands at i does not come after what stands at j. -/
def LeAt (bf : α → α → Bool) (l : List α) (i j : Nat) : Prop := ∀ x y, l[i]? = some x → l[j]? = some y → bf y x = false
theorem LeAt.trans (O : Ord bf) {l : List α} {i j k : Nat} (hj : j < l.length) (h1 : LeAt bf l i j) (h2 : LeAt bf l j k) : LeAt bf l i k := fun x y hx hy =>
  O.trans (h1 x _ hx (List.getElem?_eq_getElem hj)) (h2 _ y (List.getElem?_eq_getElem hj) hy)
theorem LeAt.refl (O : Ord bf) (l : List α) (i : Nat) : LeAt bf l i i := fun x y hx hy => by
  rw [hx] at hy
  injection hy with hy
  subst hy
  exact O.irr x
theorem LeAt.of_eq {l l' : List α} {i j i' j' : Nat} (h : LeAt bf l i j) (h1 : l'[i']? = l[i]?) (h2 : l'[j']? = l[j]?) : LeAt bf l' i' j' := fun x y hx hy => h x y (h1 ▸ hx) (h2 ▸ hy)
def HeapOrd (bf : α → α → Bool) (l : List α) : Prop := ∀ k, 0 < k → k < l.length → LeAt bf l ((k - 1) / 2) k
/-- In order but for what stands at i. -/
structure Both (bf : α → α → Bool) (l : List α) (i : Nat) : Prop where
  far : ∀ k, 0 < k → k < l.length → k ≠ i → (k - 1) / 2 ≠ i → LeAt bf l ((k - 1) / 2) k
  over : ∀ k, 0 < k → k < l.length → (k - 1) / 2 = i → 0 < i → LeAt bf l ((i - 1) / 2) k
def Kids (bf : α → α → Bool) (l : List α) (i : Nat) : Prop := ∀ k, 0 < k → k < l.length → (k - 1) / 2 = i → LeAt bf l i k
structure Down (bf : α → α → Bool) (l : List α) (i : Nat) : Prop where
  both : Both bf l i
  par : 0 < i → LeAt bf l ((i - 1) / 2) i
theorem Down.heap {l : List α} {i : Nat} (h : Down bf l i) (hk : Kids bf l i) : HeapOrd bf l := fun k h0 hl => by
  by_cases e1 : (k - 1) / 2 = i
  · rw [e1]; exact hk k h0 hl e1
  · by_cases e2 : k = i
    · subst e2; exact h.par h0
    · exact h.both.far k h0 hl e2 e1
theorem HeapOrd.both (O : Ord bf) {l : List α} (h : HeapOrd bf l) {i : Nat} (hi : i < l.length) : Both bf l i :=
  ⟨fun k h0 hl _ _ => h k h0 hl, fun k h0 hl e hi0 => (h i hi0 hi).trans O hi (by have := h k h0 hl; rwa [e] at this)⟩
theorem HeapOrd.root (O : Ord bf) {l : List α} (h : HeapOrd bf l) : ∀ (k : Nat), k < l.length → LeAt bf l 0 k := by
  intro k
  induction k using Nat.strongRecOn with
  | ind k ih =>
    intro hk
    rcases Nat.eq_zero_or_pos k with e | h0
    · subst e; exact LeAt.refl O l 0
    · have hp : (k - 1) / 2 < k := by omega
      exact (ih _ hp (by omega)).trans O (by omega) (h k h0 hk)

theorem Both.up (O : Ord bf) {l : List α} {i : Nat} (h : Both bf l i) (h0 : 0 < i) (hi : i < l.length) {x y : α} (hx : l[i]? = some x) (hy : l[(i - 1) / 2]? = some y) (hxy : bf x y = true) :
    Both bf (swp l i ((i - 1) / 2)) ((i - 1) / 2) ∧ Kids bf (swp l i ((i - 1) / 2)) ((i - 1) / 2) := by
  obtain ⟨p, hp⟩ : ∃ p, (i - 1) / 2 = p := ⟨_, rfl⟩
  rw [hp] at hy ⊢
  have hpi : p < i := by omega
  have hpl : p < l.length := by omega
  have at_ := swp_at hi hpl
  have hyx := O.asym hxy
  refine ⟨⟨fun k k0 kl kp kpp => ?_, fun k k0 kl kpp p0 => ?_⟩, fun k k0 kl kpp => ?_⟩ <;> rw [swp_length] at kl
  · have ki : k ≠ i := fun e => kpp (by rw [e, hp])
    by_cases e : (k - 1) / 2 = i
    · refine (h.over k k0 kl e h0).of_eq ?_ ?_
      · rw [at_, e, if_neg (by omega), if_pos rfl, hp]
      · rw [at_, if_neg kp, if_neg ki]
    · refine (h.far k k0 kl ki e).of_eq ?_ ?_
      · rw [at_, if_neg kpp, if_neg e]
      · rw [at_, if_neg kp, if_neg ki]
  · have hpp : LeAt bf l ((p - 1) / 2) p := h.far p p0 hpl (by omega) (by omega)
    by_cases e : k = i
    · refine hpp.of_eq ?_ ?_
      · rw [at_, if_neg (by omega), if_neg (by omega)]
      · rw [at_, if_neg (by omega), if_pos e]
    · have h2 : LeAt bf l p k := by have := h.far k k0 kl e (by omega); rwa [kpp] at this
      refine (hpp.trans O hpl h2).of_eq ?_ ?_
      · rw [at_, if_neg (by omega), if_neg (by omega)]
      · rw [at_, if_neg (by omega), if_neg e]
  · intro a b ha hb
    rw [at_, if_pos rfl, hx] at ha
    injection ha with ha
    subst ha
    by_cases e : k = i
    · rw [at_, if_neg (by omega), if_pos e, hy] at hb
      injection hb with hb
      subst hb
      exact hyx
    · rw [at_, if_neg (by omega), if_neg e] at hb
      have h2 : LeAt bf l p k := by have := h.far k k0 kl e (by omega); rwa [kpp] at this
      exact O.trans hyx (h2 y b hy hb)
theorem Down.down (O : Ord bf) {l : List α} {i c : Nat} (h : Down bf l i) (hc0 : 0 < c) (hcl : c < l.length) (hci : (c - 1) / 2 = i) {x y : α} (hx : l[i]? = some x) (hy : l[c]? = some y) (hyx : bf y x = true)
    (hk : ∀ k, 0 < k → k < l.length → (k - 1) / 2 = i → LeAt bf l c k) : Down bf (swp l i c) c := by
  have hic : i < c := by omega
  have at_ := swp_at (i := i) (by omega) hcl
  refine ⟨⟨fun k k0 kl kc kpc => ?_, fun k k0 kl kpc _ => ?_⟩, fun _ => ?_⟩
  · rw [swp_length] at kl
    by_cases e : k = i
    · refine (h.both.over c hc0 hcl hci (by omega)).of_eq ?_ ?_
      · rw [at_, if_neg kpc, if_neg (by omega), e]
      · rw [at_, if_neg kc, if_pos e]
    · by_cases e2 : (k - 1) / 2 = i
      · refine (hk k k0 kl e2).of_eq ?_ ?_
        · rw [at_, if_neg kpc, if_pos e2]
        · rw [at_, if_neg kc, if_neg e]
      · refine (h.both.far k k0 kl e e2).of_eq ?_ ?_
        · rw [at_, if_neg kpc, if_neg e2]
        · rw [at_, if_neg kc, if_neg e]
  · rw [swp_length] at kl
    have h2 : LeAt bf l c k := by have := h.both.far k k0 kl (by omega) (by omega); rwa [kpc] at this
    refine h2.of_eq ?_ ?_
    · rw [at_, if_neg (by omega), if_pos hci]
    · rw [at_, if_neg (by omega), if_neg (by omega)]
  · intro a b ha hb
    rw [at_, if_neg (by omega), if_pos hci, hy] at ha
    rw [at_, if_pos rfl, hx] at hb
    injection ha with ha
    injection hb with hb
    subst ha hb
    exact O.asym hyx
/-- Behind a removal of the first. -/
theorem HeapOrd.pop {l : List α} (h : HeapOrd bf l) {m : Nat} (hm : l.length = m + 1) : Down bf ((swp l 0 m).take m) 0 := by
  have at_ := swp_at (l := l) (i := 0) (j := m) (by omega) (by omega)
  refine ⟨⟨fun k k0 kl _ kp => ?_, fun _ _ _ _ h0 => absurd h0 (by omega)⟩, fun h0 => absurd h0 (by omega)⟩
  rw [List.length_take, swp_length] at kl
  refine (h k k0 (by omega)).of_eq ?_ ?_
  · rw [List.getElem?_take, if_pos (by omega), at_, if_neg (by omega), if_neg kp]
  · rw [List.getElem?_take, if_pos (by omega), at_, if_neg (by omega), if_neg (by omega)]
theorem HeapOrd.set (O : Ord bf) {l : List α} (h : HeapOrd bf l) {i : Nat} (hi : i < l.length) (x : α) : Both bf (l.set i x) i := by
  have hb := h.both O hi
  refine ⟨fun k k0 kl ki kp => ?_, fun k k0 kl kp h0 => ?_⟩ <;> rw [List.length_set] at kl
  · refine (hb.far k k0 kl ki kp).of_eq ?_ ?_
    · rw [List.getElem?_set, if_neg (fun e => kp e.symm)]
    · rw [List.getElem?_set, if_neg (fun e => ki e.symm)]
  · refine (hb.over k k0 kl kp h0).of_eq ?_ ?_
    · rw [List.getElem?_set, if_neg (by omega)]
    · rw [List.getElem?_set, if_neg (by omega)]
theorem HeapOrd.push {l : List α} (h : HeapOrd bf l) (x : α) : Both bf (l ++ [x]) l.length ∧ Kids bf (l ++ [x]) l.length := by
  refine ⟨⟨fun k k0 kl ki kp => ?_, fun k k0 kl kp h0 => ?_⟩, fun k k0 kl kp => ?_⟩ <;> simp at kl
  · refine (h k k0 (by omega)).of_eq ?_ ?_
    · rw [List.getElem?_append_left (by omega)]
    · rw [List.getElem?_append_left (by omega)]
  · omega
  · omega
theorem swp_last {l : List α} {m : Nat} (hm : l.length = m + 1) {a : α} (ha : l[0]? = some a) : l.Perm (a :: (swp l 0 m).take m) := by
  have h1 : (swp l 0 m).Perm l := swp_perm 0 m
  have h2 : (swp l 0 m)[m]? = some a := by rw [swp_at (by omega) (by omega), if_pos rfl, ha]
  have h3 := get_perm' h2
  have h4 : (swp l 0 m).eraseIdx m = (swp l 0 m).take m := by
    apply List.ext_getElem?
    intro k
    rw [List.getElem?_eraseIdx, List.getElem?_take]
    split
    · rfl
    · rw [List.getElem?_eq_none]; rw [swp_length]; omega
  rw [h4] at h3
  exact h1.symm.trans h3
end
end Go.Proofs.Ytbalhkbpmahkgaa

namespace Go.Proofs.Ytbalhkbpmahkgaa
open Go.RowKit

structure Ext (w : World) where
  W : World
  h : Below w.heap.size w W
instance (w : World) : Nonempty (Ext w) := ⟨⟨w, Below.refl _ _⟩⟩
theorem wp_region_ext {P : Program} {id : Nat} {Q : Exit → Act → World → Prop} {a : Act} {w : World} {l : List Oper} (hm : P.follows .mixedOrders = true) (hB : Region.lexB .any l.toArray = true)
    (h : wpQuiet P l.toArray (fun w' => ∃ u : Ext w, w' = u.W) (fun a' => ∀ w', (∃ u : Ext w, w' = u.W) → Q .normal a' w') l a) : (Code.region id l.toArray true).wp P Q a w :=
  wp_region_quiet (C := fun w' => ∃ u : Ext w, w' = u.W) hm hB ⟨⟨_, (Below.refl _ w).drew⟩, rfl⟩ (by simpa using h)
theorem calls_ext {P : Program} {f : FuncId} {args : Array Value} {w : World} {u : Ext w} {v : Value} (h : Calls P f args u.W fun e w' => e = .returned v ∧ Below u.W.heap.size u.W w') :
    Calls P f args u.W fun e w'' => e = .returned v ∧ ∃ u' : Ext w, w'' = u'.W :=
  h.mono fun _ _ ⟨he, hb⟩ => ⟨he, ⟨_, u.h.trans (hb.mono u.h.size)⟩, rfl⟩
theorem calls_ext_drewN {P : Program} {f : FuncId} {args : Array Value} {w : World} {u : Ext w} {v : Value} (h : Calls P f args u.W fun e w' => e = .returned v ∧ ∃ n, w' = u.W.drewN n) :
    Calls P f args u.W fun e w'' => e = .returned v ∧ ∃ u' : Ext w, w'' = u'.W :=
  h.mono fun _ _ ⟨he, n, hn⟩ => ⟨he, ⟨_, hn ▸ below_drewN u.h n⟩, rfl⟩
theorem ext_cell {w : World} {p : Addr} {v : Value} (h : w.cell? p = some v) (u : Ext w) : u.W.cell? p = some v := (u.h.cell (World.block_lt_of_cell? w p h)).trans h
end Go.Proofs.Ytbalhkbpmahkgaa

namespace Go.Proofs.Ytbalhkbpmahkgaa
open Go.RowKit

section
variable {P : Program} (w : World)

theorem run_append_of_nil (base : Nat) (t ty e : TypeId) (i : TypeInfo) (size : Nat) (ht : P.underlying t = some (.slice e)) (hi : P.info? e = some i)
    (v : Value) (n : Nat) (xs : List Value) (hown : w.ownsRow base e size v n xs) (c : Nat) : (Builtin.append_ #[t, t] ty #[v, .slice none 0 c]).run P w = .ok v w := by
  rcases hown.2 with ⟨rfl, rfl⟩ | ⟨g, cap, cur, rfl, _, _, hnc, _⟩
  · simp [Builtin.append_, run_underlying ht, sizeOf, typeInfo, hi, Builtin.lenOf, Builtin.firstCells]
  · simp [Builtin.append_, run_underlying ht, sizeOf, typeInfo, hi, Builtin.lenOf, Builtin.firstCells, hnc, storeCells]

theorem run_append_any (base : Nat) (t ty e : TypeId) (i : TypeInfo) (z : Value) (size bytes : Nat) (ht : P.underlying t = some (.slice e)) (hi : P.info? e = some i) (hz : i.zero = some z)
    (hsize : i.size = size) (hby : i.bytes = bytes) (hzs : z.cells.size = size) (hsz : 0 < size)
    (v : Value) (n : Nat) (xs : List Value) (hown : w.ownsRow base e size v n xs)
    (B : Nat) (A : Option Addr) (m c : Nat) (news : List Value) (hr : Reads w B size A m news) (h1 : ∀ u ∈ news, u.oneCell' = true)
    (h63 : n + m ≤ maxLen) (hbytes : (n + m) * bytes ≤ 140737488355328) (hbase : base ≤ w.heap.size) :
    ∃ v' w', (Builtin.append_ #[t, t] ty #[v, .slice A m c]).run P w = .ok v' w' ∧ w'.ownsRow base e size v' (n + m) (xs ++ news) ∧ w.grownBy w' v.ownBlock ∧
      (v'.ownBlock = v.ownBlock ∨ v'.ownBlock = some w.heap.size) := by
  rcases A with _ | ad
  · have hm : m = 0 := by
      rcases Nat.eq_zero_or_pos m with h0 | h0
      · exact h0
      · obtain ⟨b, off, h, _⟩ := hr.2 h0
        cases h
    subst hm
    have hn : news = [] := List.eq_nil_of_length_eq_zero (by simpa using hr.1)
    subst hn
    exact ⟨v, w, run_append_of_nil w base t ty e i size ht hi v n xs hown c, by simpa using hown, World.grownBy.refl w _, .inl rfl⟩
  · have hcells : ∀ j u, news[j]? = some u → w.cell? (ad.add j) = some u := by
      intro j u hu
      rcases Nat.eq_zero_or_pos m with h0 | h0
      · subst h0
        have hn : news = [] := List.eq_nil_of_length_eq_zero (by simpa using hr.1)
        subst hn
        simp at hu
      · obtain ⟨b, off, h, _, hc⟩ := hr.2 h0
        injection h with h
        subst h
        rw [Addr.add_lit]
        exact hc j u hu
    obtain ⟨v', w', hrun, h2, h3, _, h5⟩ := run_append_own_at (P := P) w base t ty e i z size bytes ht hi hz hsize hby hzs hsz v n xs hown ad m c news hr.1 hcells h1 h63 hbytes hbase
    exact ⟨v', w', hrun, h2, h3, h5⟩

theorem wp_append_any {o : Oper} {a : Act} {K : Act → World → Prop} {Q : Exit → Act → World → Prop} (s x : Operand) (t : TypeId)
    (ho : o.op = .call { callee := .builtin .append, args := #[s, x], argTypes := #[t, t] })
    (base : Nat) (e : TypeId) (i : TypeInfo) (z : Value) (size bytes : Nat) (ht : P.underlying t = some (.slice e)) (hi : P.info? e = some i) (hz : i.zero = some z)
    (hsize : i.size = size) (hby : i.bytes = bytes) (hzs : z.cells.size = size) (hsz : 0 < size)
    (v : Value) (n : Nat) (xs : List Value) (hs : a.eval s = v) (hown : w.ownsRow base e size v n xs)
    (B : Nat) (A : Option Addr) (m c : Nat) (news : List Value) (hx : a.eval x = .slice A m c) (hr : Reads w B size A m news) (h1 : ∀ u ∈ news, u.oneCell' = true)
    (h63 : n + m ≤ maxLen) (hbytes : (n + m) * bytes ≤ 140737488355328) (hbase : base ≤ w.heap.size)
    (h : ∀ v' w', w'.ownsRow base e size v' (n + m) (xs ++ news) → w.grownBy w' v.ownBlock → (v'.ownBlock = v.ownBlock ∨ v'.ownBlock = some w.heap.size) → K (a.put o.dst v') w') : o.wp P a w K Q := by
  obtain ⟨v', w', hrun, h2, h3, h4⟩ := run_append_any (P := P) w base t o.type e i z size bytes ht hi hz hsize hby hzs hsz v n xs hown B A m c news hr h1 h63 hbytes hbase
  unfold Oper.wp execOp
  simp only [ho, resolve, invoke, builtin, Sem.run_bind, Sem.run_pure, Result.andThen_ok, List.map_toArray, List.map_cons, List.map_nil, hs, hx, hrun]
  exact h v' w' h2 h3 h4

theorem step_append_any {ops : Array Oper} {o : Oper} {a : Act} {K : Act → World → Prop} {Q : Exit → Act → World → Prop} {E : Prop} (hgd : o.guard = none) (s x : Operand) (t : TypeId)
    (ho : o.op = .call { callee := .builtin .append, args := #[s, x], argTypes := #[t, t] })
    (base : Nat) (e : TypeId) (i : TypeInfo) (z : Value) (size bytes : Nat) (ht : P.underlying t = some (.slice e)) (hi : P.info? e = some i) (hz : i.zero = some z)
    (hsize : i.size = size) (hby : i.bytes = bytes) (hzs : z.cells.size = size) (hsz : 0 < size)
    (v : Value) (n : Nat) (xs : List Value) (hs : a.eval s = v) (hown : w.ownsRow base e size v n xs)
    (B : Nat) (A : Option Addr) (m c : Nat) (news : List Value) (hx : a.eval x = .slice A m c) (hr : Reads w B size A m news) (h1 : ∀ u ∈ news, u.oneCell' = true)
    (h63 : n + m ≤ maxLen) (hbytes : (n + m) * bytes ≤ 140737488355328) (hbase : base ≤ w.heap.size)
    (h : ∀ v' w', w'.ownsRow base e size v' (n + m) (xs ++ news) → w.grownBy w' v.ownBlock → (v'.ownBlock = v.ownBlock ∨ v'.ownBlock = some w.heap.size) → K (a.put o.dst v') w') :
    if Region.wanted o (yielded ops a.tmps) = true then Oper.wp P o a w K Q else E := by
  have hw : Region.wanted o (yielded ops a.tmps) = true := by simp [Region.wanted, hgd]
  rw [if_pos hw]
  exact wp_append_any w s x t ho base e i z size bytes ht hi hz hsize hby hzs hsz v n xs hs hown B A m c news hx hr h1 h63 hbytes hbase h
end
end Go.Proofs.Ytbalhkbpmahkgaa

namespace Go.Proofs.Ytbalhkbpmahkgaa
open Go.RowKit

structure Ent where
  node : Int
  cost : Int
  size : Int
  h : Nat
  t : Nat
def Ent.cells (e : Ent) : List Value := [.int .i64 e.node, .int .i64 e.cost, .int .i64 e.size, .int .i64 (e.h : Nat), .int .i64 (e.t : Nat)]
def ents (l : List Ent) : List Value := l.flatMap Ent.cells
theorem ents_length (l : List Ent) : (ents l).length = l.length * 5 := by
  induction l with
  | nil => rfl
  | cons t l ih => simp only [ents, List.flatMap_cons, List.length_append] at *; rw [ih]; simp [Ent.cells]; omega
theorem ents_append (l m : List Ent) : ents (l ++ m) = ents l ++ ents m := by simp [ents]
theorem ents_at : ∀ (l : List Ent) (k : Nat) (t : Ent) (j : Nat), l[k]? = some t → j < 5 → (ents l)[k * 5 + j]? = t.cells[j]?
  | [], _, _, _, h, _ => by simp at h
  | x :: l, 0, t, j, h, hj => by
    simp at h
    subst h
    simp only [ents, List.flatMap_cons]
    rw [List.getElem?_append_left (by simp [Ent.cells]; omega)]
    simp
  | x :: l, k + 1, t, j, h, hj => by
    simp at h
    have := ents_at l k t j h hj
    simp only [ents, List.flatMap_cons] at *
    rw [List.getElem?_append_right (by simp [Ent.cells]; omega)]
    rw [← this]
    congr 1
    simp [Ent.cells]; omega
theorem ents_one {l : List Ent} {u : Value} (h : u ∈ ents l) : u.oneCell' = true := by
  simp only [ents, List.mem_flatMap] at h
  obtain ⟨t, _, h⟩ := h
  simp [Ent.cells] at h
  rcases h with rfl | rfl | rfl | rfl | rfl <;> rfl
theorem ents_set : ∀ (l : List Ent) (i : Nat) (t : Ent), i < l.length → ents (l.set i t) = (ents l).take (i * 5) ++ t.cells ++ (ents l).drop (i * 5 + 5)
  | [], _, _, h => absurd h (Nat.not_lt_zero _)
  | x :: l, 0, t, _ => by simp [ents, Ent.cells]
  | x :: l, i + 1, t, h => by
    have ih := ents_set l i t (by simpa using h)
    have e1 : ents (x :: l) = x.cells ++ ents l := by simp [ents]
    have e2 : ents ((x :: l).set (i + 1) t) = x.cells ++ ents (l.set i t) := by simp [ents]
    have hx : x.cells.length = 5 := rfl
    rw [e1, e2, ih]
    rw [show (i + 1) * 5 = x.cells.length + i * 5 by rw [hx]; omega, List.take_length_add_append]
    rw [show x.cells.length + i * 5 + 5 = x.cells.length + (i * 5 + 5) by omega, List.drop_length_add_append]
    simp
section
variable {w : World} {B n : Nat} {A : Option Addr} {l : List Ent}
theorem Reads.len_ents (h : Reads w B 5 A n (ents l)) : l.length = n := by have := h.1; rw [ents_length] at this; omega
theorem Reads.ent_at (h : Reads w B 5 A n (ents l)) {k : Nat} (hk : k < n) :
    ∃ b off t, A = some ⟨b, off, none⟩ ∧ b < B ∧ l[k]? = some t ∧ w.cell? ⟨b, off + k * 5, none⟩ = some (.int .i64 t.node) ∧ w.cell? ⟨b, off + k * 5 + 1, none⟩ = some (.int .i64 t.cost) ∧ w.cell? ⟨b, off + k * 5 + 2, none⟩ = some (.int .i64 t.size) ∧ w.cell? ⟨b, off + k * 5 + 3, none⟩ = some (.int .i64 (t.h : Nat)) ∧ w.cell? ⟨b, off + k * 5 + 4, none⟩ = some (.int .i64 (t.t : Nat)) := by
  obtain ⟨b, off, e, hb, hc⟩ := h.2 (by omega)
  have hl : k < l.length := by rw [h.len_ents]; exact hk
  have ht := List.getElem?_eq_getElem hl
  refine ⟨b, off, l[k], e, hb, ht, ?_, ?_, ?_, ?_, ?_⟩
  · have := hc (k * 5 + 0) (.int .i64 l[k].node) (by rw [ents_at l k _ 0 ht (by omega)]; rfl)
    simpa using this
  · have := hc (k * 5 + 1) (.int .i64 l[k].cost) (by rw [ents_at l k _ 1 ht (by omega)]; rfl)
    simpa [Nat.add_assoc] using this
  · have := hc (k * 5 + 2) (.int .i64 l[k].size) (by rw [ents_at l k _ 2 ht (by omega)]; rfl)
    simpa [Nat.add_assoc] using this
  · have := hc (k * 5 + 3) (.int .i64 (l[k].h : Nat)) (by rw [ents_at l k _ 3 ht (by omega)]; rfl)
    simpa [Nat.add_assoc] using this
  · have := hc (k * 5 + 4) (.int .i64 (l[k].t : Nat)) (by rw [ents_at l k _ 4 ht (by omega)]; rfl)
    simpa [Nat.add_assoc] using this
end

/-- Which of two comes first: by the order, then by time. -/
def lt (a b : Ent) : Bool := (decide (a.cost < b.cost) || (a.cost == b.cost && decide (a.size < b.size)))
def bf (a b : Ent) : Bool := lt a b || (!lt b a && decide (a.t < b.t))
theorem bf_iff {a b : Ent} : bf a b = true ↔ a.cost < b.cost ∨ (a.cost = b.cost ∧ (a.size < b.size ∨ (a.size = b.size ∧ a.t < b.t))) := by
  simp only [bf, lt]
  by_cases h1 : a.cost < b.cost <;> by_cases h2 : b.cost < a.cost <;> by_cases h3 : a.size < b.size <;> by_cases h4 : b.size < a.size <;> by_cases h5 : a.t < b.t <;> simp [h1, h2, h3, h4, h5] <;> omega
theorem bf_no {a b : Ent} : bf a b = false ↔ ¬ (a.cost < b.cost ∨ (a.cost = b.cost ∧ (a.size < b.size ∨ (a.size = b.size ∧ a.t < b.t)))) := by
  rw [← bf_iff]
  simp
theorem bf_ord : Ord bf := ⟨fun h1 h2 => by rw [bf_no] at *; omega, fun h => by rw [bf_no]; rw [bf_iff] at h; omega⟩
theorem bf_total {a b : Ent} (ht : a.t ≠ b.t) (h : bf a b = false) : bf b a = true := by rw [bf_no] at h; rw [bf_iff]; omega
end Go.Proofs.Ytbalhkbpmahkgaa

namespace Go.Proofs.Ytbalhkbpmahkgaa
open Go.RowKit

theorem ents_put : ∀ (l : List Ent) (i : Nat) (e : Ent), i < l.length → ((((((ents l).set (i * 5) (.int .i64 e.node)).set (i * 5 + 1) (.int .i64 e.cost)).set (i * 5 + 2) (.int .i64 e.size)).set (i * 5 + 3) (.int .i64 (e.h : Nat))).set (i * 5 + 4) (.int .i64 (e.t : Nat))) = ents (l.set i e)
  | [], _, _, h => absurd h (Nat.not_lt_zero _)
  | x :: l, 0, e, _ => by simp [ents, Ent.cells]
  | x :: l, i + 1, e, h => by
    have ih := ents_put l i e (by simpa using h)
    have e1 : ents (x :: l) = x.cells ++ ents l := by simp [ents]
    have e2 : ents ((x :: l).set (i + 1) e) = x.cells ++ ents (l.set i e) := by simp [ents]
    have hx : x.cells.length = 5 := rfl
    have hs : ∀ (m : List Value) (j : Nat) (u : Value), (x.cells ++ m).set ((i + 1) * 5 + j) u = x.cells ++ m.set (i * 5 + j) u := fun m j u => by
      rw [List.set_append_right _ _ (by omega), hx]
      congr 2
      omega
    have hs0 : ∀ (m : List Value) (u : Value), (x.cells ++ m).set ((i + 1) * 5) u = x.cells ++ m.set (i * 5) u := fun m u => hs m 0 u
    rw [e1, e2, ← ih]
    simp only [hs, hs0]
/-- A new element and a new time; the handle stays. -/
theorem ents_putx : ∀ (l : List Ent) (i : Nat) (e : Ent), (∃ y, l[i]? = some y ∧ y.h = e.h) → (((((ents l).set (i * 5) (.int .i64 e.node)).set (i * 5 + 1) (.int .i64 e.cost)).set (i * 5 + 2) (.int .i64 e.size)).set (i * 5 + 4) (.int .i64 (e.t : Nat))) = ents (l.set i e)
  | [], _, _, h => by obtain ⟨y, h, _⟩ := h; simp at h
  | x :: l, 0, e, h => by
    obtain ⟨y, h, hh⟩ := h
    simp at h
    subst h
    simp [ents, Ent.cells, hh]
  | x :: l, i + 1, e, h => by
    have ih := ents_putx l i e (by simpa using h)
    have e1 : ents (x :: l) = x.cells ++ ents l := by simp [ents]
    have e2 : ents ((x :: l).set (i + 1) e) = x.cells ++ ents (l.set i e) := by simp [ents]
    have hx : x.cells.length = 5 := rfl
    have hs : ∀ (m : List Value) (j : Nat) (u : Value), (x.cells ++ m).set ((i + 1) * 5 + j) u = x.cells ++ m.set (i * 5 + j) u := fun m j u => by
      rw [List.set_append_right _ _ (by omega), hx]
      congr 2
      omega
    have hs0 : ∀ (m : List Value) (u : Value), (x.cells ++ m).set ((i + 1) * 5) u = x.cells ++ m.set (i * 5) u := fun m u => hs m 0 u
    rw [e1, e2, ← ih]
    simp only [hs, hs0]

/-- The row of the entries. -/
def OwnE (w : World) (A : Option Addr) (c : Nat) (l : List Ent) : Prop := w.ownsRow 0 100 5 (.slice A l.length c) l.length (ents l)
section
variable {w w' : World} {A : Option Addr} {c : Nat} {l : List Ent}
theorem OwnE.reads (h : OwnE w A c l) : Reads w w.heap.size 5 A l.length (ents l) := Reads.of_own h
theorem OwnE.form (h : OwnE w A c l) {i : Nat} (hi : i < l.length) : ∃ g cur, A = some ⟨g, 0, none⟩ ∧ Blk w g 100 cur := by
  rcases h.2 with ⟨hv, h0⟩ | ⟨g, cap, cur, hv, _, hg, _⟩
  · omega
  · injection hv with h1 h2 h3
    subst h1
    exact ⟨g, cur, rfl, hg⟩
theorem OwnE.at_ {g : Nat} (h : OwnE w (some ⟨g, 0, none⟩) c l) {k : Nat} {t : Ent} (ht : l[k]? = some t) : w.cell? ⟨g, k * 5, none⟩ = some (.int .i64 t.node) ∧ w.cell? ⟨g, k * 5 + 1, none⟩ = some (.int .i64 t.cost) ∧ w.cell? ⟨g, k * 5 + 2, none⟩ = some (.int .i64 t.size) ∧ w.cell? ⟨g, k * 5 + 3, none⟩ = some (.int .i64 (t.h : Nat)) ∧ w.cell? ⟨g, k * 5 + 4, none⟩ = some (.int .i64 (t.t : Nat)) := by
  obtain ⟨b, off, t', e, _, ht', hc⟩ := h.reads.ent_at (List.getElem?_eq_some_iff.1 ht).1
  injection e with e
  injection e with e1 e2 _
  subst e1 e2
  rw [ht] at ht'
  injection ht' with ht'
  subst ht'
  simpa using hc
theorem OwnE.frozen {g : Nat} (h : OwnE w (some ⟨g, 0, none⟩) c l) (o : Nat) : w.frozen? ⟨g, o, none⟩ = false := by
  rcases h.2 with ⟨hv, _⟩ | ⟨g', cap, cur, hv, _, hg, _⟩
  · injection hv with h1; cases h1
  · injection hv with h1
    injection h1 with h1
    injection h1 with h1
    subst h1
    exact Blk.frozen (t := 100) (cs := cur) hg o
theorem own_setCell {base : Nat} {e : TypeId} {size n g c : Nat} {xs : List Value} (h : w.ownsRow base e size (.slice (some ⟨g, 0, none⟩) n c) n xs) (o : Nat) (u : Value) (ho : o < n * size) :
    (w.setCell ⟨g, o, none⟩ u).ownsRow base e size (.slice (some ⟨g, 0, none⟩) n c) n (xs.set o u) := by
  refine ⟨by rw [List.length_set]; exact h.1, ?_⟩
  rcases h.2 with ⟨hv, _⟩ | ⟨g', cap, cur, hv, hb, hg, h1, h2, h3, h4⟩
  · injection hv with h1; cases h1
  · injection hv with e1 e2 e3
    injection e1 with e1
    injection e1 with e1
    subst e1 e3
    refine .inr ⟨g, c, cur.setIfInBounds o u, rfl, hb, ?_, h1, h2, by simpa using h3, ?_⟩
    · exact (Blk.set_ (g := g) (t := e) (cs := cur) hg o u)
    · rw [← h4, Array.toList_setIfInBounds]
      apply List.ext_getElem?
      intro k
      simp only [List.getElem?_take, List.getElem?_set, List.length_take]
      have hsz : cur.toList.length = c * size := by simpa using h3
      have hle : n * size ≤ c * size := Nat.mul_le_mul_right _ h1
      by_cases e2 : o = k
      · subst e2
        simp [ho, hsz, Nat.min_eq_left hle, Nat.lt_of_lt_of_le ho hle]
      · simp [e2]
theorem OwnE.put {g : Nat} (h : OwnE w (some ⟨g, 0, none⟩) c l) {i : Nat} (hi : i < l.length) (e : Ent) : OwnE (((((w.setCell ⟨g, i * 5, none⟩ (.int .i64 e.node)).setCell ⟨g, i * 5 + 1, none⟩ (.int .i64 e.cost)).setCell ⟨g, i * 5 + 2, none⟩ (.int .i64 e.size)).setCell ⟨g, i * 5 + 3, none⟩ (.int .i64 (e.h : Nat))).setCell ⟨g, i * 5 + 4, none⟩ (.int .i64 (e.t : Nat))) (some ⟨g, 0, none⟩) c (l.set i e) := by
  have hm : i * 5 + 5 ≤ l.length * 5 := by have := Nat.mul_le_mul_right 5 (show i + 1 ≤ l.length from hi); omega
  unfold OwnE at h ⊢
  rw [List.length_set, ← ents_put l i e hi]
  exact own_setCell (own_setCell (own_setCell (own_setCell (own_setCell h _ _ (by omega)) _ _ (by omega)) _ _ (by omega)) _ _ (by omega)) _ _ (by omega)
theorem OwnE.putx {g : Nat} (h : OwnE w (some ⟨g, 0, none⟩) c l) {i : Nat} {y : Ent} (hy : l[i]? = some y) (e : Ent) (hh : y.h = e.h) : OwnE ((((w.setCell ⟨g, i * 5, none⟩ (.int .i64 e.node)).setCell ⟨g, i * 5 + 1, none⟩ (.int .i64 e.cost)).setCell ⟨g, i * 5 + 2, none⟩ (.int .i64 e.size)).setCell ⟨g, i * 5 + 4, none⟩ (.int .i64 (e.t : Nat))) (some ⟨g, 0, none⟩) c (l.set i e) := by
  have hi := (List.getElem?_eq_some_iff.1 hy).1
  have hm : i * 5 + 5 ≤ l.length * 5 := by have := Nat.mul_le_mul_right 5 (show i + 1 ≤ l.length from hi); omega
  unfold OwnE at h ⊢
  rw [List.length_set, ← ents_putx l i e ⟨y, hy, hh⟩]
  exact own_setCell (own_setCell (own_setCell (own_setCell h _ _ (by omega)) _ _ (by omega)) _ _ (by omega)) _ _ (by omega)
theorem OwnE.take (h : OwnE w A c l) {m : Nat} (hm : m ≤ l.length) : OwnE w A c (l.take m) := by
  unfold OwnE at h ⊢
  have hl : (l.take m).length = m := by rw [List.length_take]; omega
  have he : ents (l.take m) = (ents l).take (m * 5) := by
    have e1 : ents l = ents (l.take m) ++ ents (l.drop m) := by rw [← ents_append, List.take_append_drop]
    have e2 : (ents (l.take m)).length = m * 5 := by rw [ents_length, hl]
    rw [e1, ← e2, List.take_left]
  rw [hl]
  refine ⟨by rw [ents_length, hl], ?_⟩
  rcases h.2 with ⟨hv, h0⟩ | ⟨g, cap, cur, hv, hb, hg, h1, h2, h3, h4⟩
  · injection hv with e1 e2 e3
    subst e1 e3
    obtain rfl : m = 0 := by omega
    exact .inl ⟨rfl, rfl⟩
  · injection hv with e1 e2 e3
    subst e1 e3
    refine .inr ⟨g, c, cur, rfl, hb, hg, by omega, h2, h3, ?_⟩
    rw [he, ← h4, List.take_take]
    congr 1
    have := Nat.mul_le_mul_right 5 hm
    omega
end

/-- The queue's block, its row, its map; all of F. -/
def QM (w : World) (F : Nat → Prop) (q : Nat) (l : List Ent) (nx ck : Nat) (f : Int → Option Nat) : Prop :=
  ∃ A c b, Blk w q 96 #[.func (.func 49) #[] #[], .slice A l.length c, .map (some b), .int .i64 nx, .int .i64 ck] ∧ OwnE w A c l ∧ MapI w b nx f ∧ F q ∧ F b ∧ ∀ k, (Value.slice A l.length c).ownBlock = some k → F k
/-- The map gives the places of the handles. -/
structure Agree (l : List Ent) (f : Int → Option Nat) : Prop where
  to : ∀ (i : Nat) (e : Ent), l[i]? = some e → f (e.h : Int) = some i
  fro : ∀ (k : Int) (i : Nat), f k = some i → ∃ e, l[i]? = some e ∧ (e.h : Int) = k
section
variable {F G : Nat → Prop} {w w' : World} {q nx ck : Nat} {l : List Ent} {f : Int → Option Nat}
theorem QM.touch (h : QM w F q l nx ck f) (ht : Touch G w w') (hd : ∀ k, F k → ¬ G k) : QM w' F q l nx ck f := by
  obtain ⟨A, c, b, K, O, M, h1, h2, h3⟩ := h
  exact ⟨A, c, b, K.touch ht (hd _ h1), own_touch O ht (fun k hk => hd k (h3 k hk)), M.keep (ht.block b M.lt (hd b h2)), h1, h2, h3⟩
theorem QM.below (h : QM w F q l nx ck f) (hb : Below w.heap.size w w') : QM w' F q l nx ck f := h.touch (Touch.of_below (F := fun _ => False) hb) (fun _ _ h => h)
theorem QM.mono (h : QM w F q l nx ck f) (hF : ∀ k, F k → G k) : QM w G q l nx ck f := by
  obtain ⟨A, c, b, K, O, M, h1, h2, h3⟩ := h
  exact ⟨A, c, b, K, O, M, hF _ h1, hF _ h2, fun k hk => hF k (h3 k hk)⟩
theorem QM.precise (h : QM w F q l nx ck f) : ∃ G : Nat → Prop, (∀ k, G k → F k ∧ k < w.heap.size) ∧ QM w G q l nx ck f := by
  obtain ⟨A, c, b, K, O, M, h1, h2, h3⟩ := h
  exact ⟨fun k => F k ∧ k < w.heap.size, fun _ hk => hk, A, c, b, K, O, M, ⟨h1, K.lt⟩, ⟨h2, M.lt⟩, fun k hk => ⟨h3 k hk, own_lt O hk⟩⟩
theorem QM.drewN (h : QM w F q l nx ck f) (n : Nat) : QM (w.drewN n) F q l nx ck f := h.below (below_drewN (Below.refl _ _) n)
end
end Go.Proofs.Ytbalhkbpmahkgaa

namespace Go.Proofs.Ytbalhkbpmahkgaa
open Go.RowKit

/-- The order of values: by cost, then by size. -/
def vlt (c s c' s' : Int) : Bool := decide (c < c') || (c == c' && decide (s < s'))
theorem vless_any (c s c' s' : Int) (w : World) : Calls Try.prog 50 #[.agg #[.int .i64 c, .int .i64 s], .agg #[.int .i64 c', .int .i64 s']] w fun e w' => e = .returned (.bool (vlt c s c' s')) ∧ Below w.heap.size w w' := by
  have hv : vlt c s c' s' = (decide (c < c') || (c == c' && decide (s < s'))) := rfl
  rw [hv]
  clear hv
  by_cases h1 : c < c'
  · have d1 : decide (c < c') = true := by simp [h1]
    go_enter Try.func50, Try.ntmps50
    go_wp2_with fail
    go_ret
    exact ⟨by simp [h1], ((Below.refl _ _).alloc (Nat.le_refl _) _).alloc (by simp) _⟩
  · have d1 : decide (c < c') = false := by simp [h1]
    by_cases h2 : c = c'
    · have d2 : (c == c') = true := by simp [h2]
      clear h1
      go_enter Try.func50, Try.ntmps50
      go_wp2_with fail
      go_ret
      exact ⟨by simp [h2], ((Below.refl _ _).alloc (Nat.le_refl _) _).alloc (by simp) _⟩
    · have d2 : (c == c') = false := by simp [h2]
      clear h1 h2
      go_enter Try.func50, Try.ntmps50
      go_wp2_with fail
      go_ret
      exact ⟨by simp [d1, d2], ((Below.refl _ _).alloc (Nat.le_refl _) _).alloc (by simp) _⟩
theorem less_any (x y : Ent) (w : World) : Calls Try.prog 49 #[.agg #[.int .i64 x.node, .int .i64 x.cost, .int .i64 x.size], .agg #[.int .i64 y.node, .int .i64 y.cost, .int .i64 y.size]] w fun e w' => e = .returned (.bool (lt x y)) ∧ Below w.heap.size w w' := by
  obtain ⟨x0, x1, x2, xh, xt⟩ := x
  obtain ⟨y0, y1, y2, yh, yt⟩ := y
  show Calls Try.prog 49 #[.agg #[.int .i64 x0, .int .i64 x1, .int .i64 x2], .agg #[.int .i64 y0, .int .i64 y1, .int .i64 y2]] w fun e w' => e = .returned (.bool (vlt x1 x2 y1 y2)) ∧ Below w.heap.size w w'
  go_enter Try.func49, Try.ntmps49
  go_wp2_with fail
  refine (vless_any x1 x2 y1 y2 _).mono ?_
  rintro e w1 ⟨rfl, hb1⟩
  simp only [World.size_alloc] at hb1
  go_wp2_with fail
  go_ret
  exact ⟨rfl, (((Below.refl _ _).alloc (Nat.le_refl _) _).alloc (by simp) _).trans (hb1.mono (by omega))⟩
end Go.Proofs.Ytbalhkbpmahkgaa

namespace Go.Proofs.Ytbalhkbpmahkgaa.Oq
open Go.RowKit

structure Ent where
  cost : Int
  node : Int
  h : Nat
  t : Nat
def Ent.cells (e : Ent) : List Value := [.int .i64 e.cost, .int .i64 e.node, .int .i64 (e.h : Nat), .int .i64 (e.t : Nat)]
def ents (l : List Ent) : List Value := l.flatMap Ent.cells
theorem ents_length (l : List Ent) : (ents l).length = l.length * 4 := by
  induction l with
  | nil => rfl
  | cons t l ih => simp only [ents, List.flatMap_cons, List.length_append] at *; rw [ih]; simp [Ent.cells]; omega
theorem ents_append (l m : List Ent) : ents (l ++ m) = ents l ++ ents m := by simp [ents]
theorem ents_at : ∀ (l : List Ent) (k : Nat) (t : Ent) (j : Nat), l[k]? = some t → j < 4 → (ents l)[k * 4 + j]? = t.cells[j]?
  | [], _, _, _, h, _ => by simp at h
  | x :: l, 0, t, j, h, hj => by
    simp at h
    subst h
    simp only [ents, List.flatMap_cons]
    rw [List.getElem?_append_left (by simp [Ent.cells]; omega)]
    simp
  | x :: l, k + 1, t, j, h, hj => by
    simp at h
    have := ents_at l k t j h hj
    simp only [ents, List.flatMap_cons] at *
    rw [List.getElem?_append_right (by simp [Ent.cells]; omega)]
    rw [← this]
    congr 1
    simp [Ent.cells]; omega
theorem ents_one {l : List Ent} {u : Value} (h : u ∈ ents l) : u.oneCell' = true := by
  simp only [ents, List.mem_flatMap] at h
  obtain ⟨t, _, h⟩ := h
  simp [Ent.cells] at h
  rcases h with rfl | rfl | rfl | rfl <;> rfl
theorem ents_set : ∀ (l : List Ent) (i : Nat) (t : Ent), i < l.length → ents (l.set i t) = (ents l).take (i * 4) ++ t.cells ++ (ents l).drop (i * 4 + 4)
  | [], _, _, h => absurd h (Nat.not_lt_zero _)
  | x :: l, 0, t, _ => by simp [ents, Ent.cells]
  | x :: l, i + 1, t, h => by
    have ih := ents_set l i t (by simpa using h)
    have e1 : ents (x :: l) = x.cells ++ ents l := by simp [ents]
    have e2 : ents ((x :: l).set (i + 1) t) = x.cells ++ ents (l.set i t) := by simp [ents]
    have hx : x.cells.length = 4 := rfl
    rw [e1, e2, ih]
    rw [show (i + 1) * 4 = x.cells.length + i * 4 by rw [hx]; omega, List.take_length_add_append]
    rw [show x.cells.length + i * 4 + 4 = x.cells.length + (i * 4 + 4) by omega, List.drop_length_add_append]
    simp
section
variable {w : World} {B n : Nat} {A : Option Addr} {l : List Ent}
theorem _root_.Go.Proofs.Ytbalhkbpmahkgaa.Reads.olen_ents (h : Reads w B 4 A n (ents l)) : l.length = n := by have := h.1; rw [ents_length] at this; omega
theorem _root_.Go.Proofs.Ytbalhkbpmahkgaa.Reads.oent_at (h : Reads w B 4 A n (ents l)) {k : Nat} (hk : k < n) :
    ∃ b off t, A = some ⟨b, off, none⟩ ∧ b < B ∧ l[k]? = some t ∧ w.cell? ⟨b, off + k * 4, none⟩ = some (.int .i64 t.cost) ∧ w.cell? ⟨b, off + k * 4 + 1, none⟩ = some (.int .i64 t.node) ∧ w.cell? ⟨b, off + k * 4 + 2, none⟩ = some (.int .i64 (t.h : Nat)) ∧ w.cell? ⟨b, off + k * 4 + 3, none⟩ = some (.int .i64 (t.t : Nat)) := by
  obtain ⟨b, off, e, hb, hc⟩ := h.2 (by omega)
  have hl : k < l.length := by rw [h.olen_ents]; exact hk
  have ht := List.getElem?_eq_getElem hl
  refine ⟨b, off, l[k], e, hb, ht, ?_, ?_, ?_, ?_⟩
  · have := hc (k * 4 + 0) (.int .i64 l[k].cost) (by rw [ents_at l k _ 0 ht (by omega)]; rfl)
    simpa using this
  · have := hc (k * 4 + 1) (.int .i64 l[k].node) (by rw [ents_at l k _ 1 ht (by omega)]; rfl)
    simpa [Nat.add_assoc] using this
  · have := hc (k * 4 + 2) (.int .i64 (l[k].h : Nat)) (by rw [ents_at l k _ 2 ht (by omega)]; rfl)
    simpa [Nat.add_assoc] using this
  · have := hc (k * 4 + 3) (.int .i64 (l[k].t : Nat)) (by rw [ents_at l k _ 3 ht (by omega)]; rfl)
    simpa [Nat.add_assoc] using this
end

/-- Which of two comes first: by the order, then by time. -/
def lt (a b : Ent) : Bool := decide (a.cost < b.cost)
def bf (a b : Ent) : Bool := lt a b || (!lt b a && decide (a.t < b.t))
theorem bf_iff {a b : Ent} : bf a b = true ↔ a.cost < b.cost ∨ (a.cost = b.cost ∧ a.t < b.t) := by
  simp only [bf, lt]
  by_cases h1 : a.cost < b.cost <;> by_cases h2 : b.cost < a.cost <;> by_cases h3 : a.t < b.t <;> simp [h1, h2, h3] <;> omega
theorem bf_no {a b : Ent} : bf a b = false ↔ ¬ (a.cost < b.cost ∨ (a.cost = b.cost ∧ a.t < b.t)) := by
  rw [← bf_iff]
  simp
theorem bf_ord : Ord bf := ⟨fun h1 h2 => by rw [bf_no] at *; omega, fun h => by rw [bf_no]; rw [bf_iff] at h; omega⟩
theorem bf_total {a b : Ent} (ht : a.t ≠ b.t) (h : bf a b = false) : bf b a = true := by rw [bf_no] at h; rw [bf_iff]; omega
end Go.Proofs.Ytbalhkbpmahkgaa.Oq

namespace Go.Proofs.Ytbalhkbpmahkgaa.Oq
open Go.RowKit

theorem ents_put : ∀ (l : List Ent) (i : Nat) (e : Ent), i < l.length → (((((ents l).set (i * 4) (.int .i64 e.cost)).set (i * 4 + 1) (.int .i64 e.node)).set (i * 4 + 2) (.int .i64 (e.h : Nat))).set (i * 4 + 3) (.int .i64 (e.t : Nat))) = ents (l.set i e)
  | [], _, _, h => absurd h (Nat.not_lt_zero _)
  | x :: l, 0, e, _ => by simp [ents, Ent.cells]
  | x :: l, i + 1, e, h => by
    have ih := ents_put l i e (by simpa using h)
    have e1 : ents (x :: l) = x.cells ++ ents l := by simp [ents]
    have e2 : ents ((x :: l).set (i + 1) e) = x.cells ++ ents (l.set i e) := by simp [ents]
    have hx : x.cells.length = 4 := rfl
    have hs : ∀ (m : List Value) (j : Nat) (u : Value), (x.cells ++ m).set ((i + 1) * 4 + j) u = x.cells ++ m.set (i * 4 + j) u := fun m j u => by
      rw [List.set_append_right _ _ (by omega), hx]
      congr 2
      omega
    have hs0 : ∀ (m : List Value) (u : Value), (x.cells ++ m).set ((i + 1) * 4) u = x.cells ++ m.set (i * 4) u := fun m u => hs m 0 u
    rw [e1, e2, ← ih]
    simp only [hs, hs0]
/-- A new element and a new time; the handle stays. -/
theorem ents_putx : ∀ (l : List Ent) (i : Nat) (e : Ent), (∃ y, l[i]? = some y ∧ y.h = e.h) → ((((ents l).set (i * 4) (.int .i64 e.cost)).set (i * 4 + 1) (.int .i64 e.node)).set (i * 4 + 3) (.int .i64 (e.t : Nat))) = ents (l.set i e)
  | [], _, _, h => by obtain ⟨y, h, _⟩ := h; simp at h
  | x :: l, 0, e, h => by
    obtain ⟨y, h, hh⟩ := h
    simp at h
    subst h
    simp [ents, Ent.cells, hh]
  | x :: l, i + 1, e, h => by
    have ih := ents_putx l i e (by simpa using h)
    have e1 : ents (x :: l) = x.cells ++ ents l := by simp [ents]
    have e2 : ents ((x :: l).set (i + 1) e) = x.cells ++ ents (l.set i e) := by simp [ents]
    have hx : x.cells.length = 4 := rfl
    have hs : ∀ (m : List Value) (j : Nat) (u : Value), (x.cells ++ m).set ((i + 1) * 4 + j) u = x.cells ++ m.set (i * 4 + j) u := fun m j u => by
      rw [List.set_append_right _ _ (by omega), hx]
      congr 2
      omega
    have hs0 : ∀ (m : List Value) (u : Value), (x.cells ++ m).set ((i + 1) * 4) u = x.cells ++ m.set (i * 4) u := fun m u => hs m 0 u
    rw [e1, e2, ← ih]
    simp only [hs, hs0]

/-- The row of the entries. -/
def OwnE (w : World) (A : Option Addr) (c : Nat) (l : List Ent) : Prop := w.ownsRow 0 77 4 (.slice A l.length c) l.length (ents l)
section
variable {w w' : World} {A : Option Addr} {c : Nat} {l : List Ent}
theorem OwnE.reads (h : OwnE w A c l) : Reads w w.heap.size 4 A l.length (ents l) := Reads.of_own h
theorem OwnE.form (h : OwnE w A c l) {i : Nat} (hi : i < l.length) : ∃ g cur, A = some ⟨g, 0, none⟩ ∧ Blk w g 77 cur := by
  rcases h.2 with ⟨hv, h0⟩ | ⟨g, cap, cur, hv, _, hg, _⟩
  · omega
  · injection hv with h1 h2 h3
    subst h1
    exact ⟨g, cur, rfl, hg⟩
theorem OwnE.at_ {g : Nat} (h : OwnE w (some ⟨g, 0, none⟩) c l) {k : Nat} {t : Ent} (ht : l[k]? = some t) : w.cell? ⟨g, k * 4, none⟩ = some (.int .i64 t.cost) ∧ w.cell? ⟨g, k * 4 + 1, none⟩ = some (.int .i64 t.node) ∧ w.cell? ⟨g, k * 4 + 2, none⟩ = some (.int .i64 (t.h : Nat)) ∧ w.cell? ⟨g, k * 4 + 3, none⟩ = some (.int .i64 (t.t : Nat)) := by
  obtain ⟨b, off, t', e, _, ht', hc⟩ := h.reads.oent_at (List.getElem?_eq_some_iff.1 ht).1
  injection e with e
  injection e with e1 e2 _
  subst e1 e2
  rw [ht] at ht'
  injection ht' with ht'
  subst ht'
  simpa using hc
theorem OwnE.frozen {g : Nat} (h : OwnE w (some ⟨g, 0, none⟩) c l) (o : Nat) : w.frozen? ⟨g, o, none⟩ = false := by
  rcases h.2 with ⟨hv, _⟩ | ⟨g', cap, cur, hv, _, hg, _⟩
  · injection hv with h1; cases h1
  · injection hv with h1
    injection h1 with h1
    injection h1 with h1
    subst h1
    exact Blk.frozen (t := 77) (cs := cur) hg o
theorem own_setCell {base : Nat} {e : TypeId} {size n g c : Nat} {xs : List Value} (h : w.ownsRow base e size (.slice (some ⟨g, 0, none⟩) n c) n xs) (o : Nat) (u : Value) (ho : o < n * size) :
    (w.setCell ⟨g, o, none⟩ u).ownsRow base e size (.slice (some ⟨g, 0, none⟩) n c) n (xs.set o u) := by
  refine ⟨by rw [List.length_set]; exact h.1, ?_⟩
  rcases h.2 with ⟨hv, _⟩ | ⟨g', cap, cur, hv, hb, hg, h1, h2, h3, h4⟩
  · injection hv with h1; cases h1
  · injection hv with e1 e2 e3
    injection e1 with e1
    injection e1 with e1
    subst e1 e3
    refine .inr ⟨g, c, cur.setIfInBounds o u, rfl, hb, ?_, h1, h2, by simpa using h3, ?_⟩
    · exact (Blk.set_ (g := g) (t := e) (cs := cur) hg o u)
    · rw [← h4, Array.toList_setIfInBounds]
      apply List.ext_getElem?
      intro k
      simp only [List.getElem?_take, List.getElem?_set, List.length_take]
      have hsz : cur.toList.length = c * size := by simpa using h3
      have hle : n * size ≤ c * size := Nat.mul_le_mul_right _ h1
      by_cases e2 : o = k
      · subst e2
        simp [ho, hsz, Nat.min_eq_left hle, Nat.lt_of_lt_of_le ho hle]
      · simp [e2]
theorem OwnE.put {g : Nat} (h : OwnE w (some ⟨g, 0, none⟩) c l) {i : Nat} (hi : i < l.length) (e : Ent) : OwnE ((((w.setCell ⟨g, i * 4, none⟩ (.int .i64 e.cost)).setCell ⟨g, i * 4 + 1, none⟩ (.int .i64 e.node)).setCell ⟨g, i * 4 + 2, none⟩ (.int .i64 (e.h : Nat))).setCell ⟨g, i * 4 + 3, none⟩ (.int .i64 (e.t : Nat))) (some ⟨g, 0, none⟩) c (l.set i e) := by
  have hm : i * 4 + 4 ≤ l.length * 4 := by have := Nat.mul_le_mul_right 4 (show i + 1 ≤ l.length from hi); omega
  unfold OwnE at h ⊢
  rw [List.length_set, ← ents_put l i e hi]
  exact own_setCell (own_setCell (own_setCell (own_setCell h _ _ (by omega)) _ _ (by omega)) _ _ (by omega)) _ _ (by omega)
theorem OwnE.putx {g : Nat} (h : OwnE w (some ⟨g, 0, none⟩) c l) {i : Nat} {y : Ent} (hy : l[i]? = some y) (e : Ent) (hh : y.h = e.h) : OwnE (((w.setCell ⟨g, i * 4, none⟩ (.int .i64 e.cost)).setCell ⟨g, i * 4 + 1, none⟩ (.int .i64 e.node)).setCell ⟨g, i * 4 + 3, none⟩ (.int .i64 (e.t : Nat))) (some ⟨g, 0, none⟩) c (l.set i e) := by
  have hi := (List.getElem?_eq_some_iff.1 hy).1
  have hm : i * 4 + 4 ≤ l.length * 4 := by have := Nat.mul_le_mul_right 4 (show i + 1 ≤ l.length from hi); omega
  unfold OwnE at h ⊢
  rw [List.length_set, ← ents_putx l i e ⟨y, hy, hh⟩]
  exact own_setCell (own_setCell (own_setCell h _ _ (by omega)) _ _ (by omega)) _ _ (by omega)
theorem OwnE.take (h : OwnE w A c l) {m : Nat} (hm : m ≤ l.length) : OwnE w A c (l.take m) := by
  unfold OwnE at h ⊢
  have hl : (l.take m).length = m := by rw [List.length_take]; omega
  have he : ents (l.take m) = (ents l).take (m * 4) := by
    have e1 : ents l = ents (l.take m) ++ ents (l.drop m) := by rw [← ents_append, List.take_append_drop]
    have e2 : (ents (l.take m)).length = m * 4 := by rw [ents_length, hl]
    rw [e1, ← e2, List.take_left]
  rw [hl]
  refine ⟨by rw [ents_length, hl], ?_⟩
  rcases h.2 with ⟨hv, h0⟩ | ⟨g, cap, cur, hv, hb, hg, h1, h2, h3, h4⟩
  · injection hv with e1 e2 e3
    subst e1 e3
    obtain rfl : m = 0 := by omega
    exact .inl ⟨rfl, rfl⟩
  · injection hv with e1 e2 e3
    subst e1 e3
    refine .inr ⟨g, c, cur, rfl, hb, hg, by omega, h2, h3, ?_⟩
    rw [he, ← h4, List.take_take]
    congr 1
    have := Nat.mul_le_mul_right 4 hm
    omega
end

/-- The queue's block, its row, its map; all of F. -/
def QM (w : World) (F : Nat → Prop) (q : Nat) (l : List Ent) (nx ck : Nat) (f : Int → Option Nat) : Prop :=
  ∃ A c b, Blk w q 75 #[.func (.func 41) #[] #[], .slice A l.length c, .map (some b), .int .i64 nx, .int .i64 ck] ∧ OwnE w A c l ∧ MapI w b nx f ∧ F q ∧ F b ∧ ∀ k, (Value.slice A l.length c).ownBlock = some k → F k
/-- The map gives the places of the handles. -/
structure Agree (l : List Ent) (f : Int → Option Nat) : Prop where
  to : ∀ (i : Nat) (e : Ent), l[i]? = some e → f (e.h : Int) = some i
  fro : ∀ (k : Int) (i : Nat), f k = some i → ∃ e, l[i]? = some e ∧ (e.h : Int) = k
section
variable {F G : Nat → Prop} {w w' : World} {q nx ck : Nat} {l : List Ent} {f : Int → Option Nat}
theorem QM.touch (h : QM w F q l nx ck f) (ht : Touch G w w') (hd : ∀ k, F k → ¬ G k) : QM w' F q l nx ck f := by
  obtain ⟨A, c, b, K, O, M, h1, h2, h3⟩ := h
  exact ⟨A, c, b, K.touch ht (hd _ h1), own_touch O ht (fun k hk => hd k (h3 k hk)), M.keep (ht.block b M.lt (hd b h2)), h1, h2, h3⟩
theorem QM.below (h : QM w F q l nx ck f) (hb : Below w.heap.size w w') : QM w' F q l nx ck f := h.touch (Touch.of_below (F := fun _ => False) hb) (fun _ _ h => h)
theorem QM.mono (h : QM w F q l nx ck f) (hF : ∀ k, F k → G k) : QM w G q l nx ck f := by
  obtain ⟨A, c, b, K, O, M, h1, h2, h3⟩ := h
  exact ⟨A, c, b, K, O, M, hF _ h1, hF _ h2, fun k hk => hF k (h3 k hk)⟩
theorem QM.precise (h : QM w F q l nx ck f) : ∃ G : Nat → Prop, (∀ k, G k → F k ∧ k < w.heap.size) ∧ QM w G q l nx ck f := by
  obtain ⟨A, c, b, K, O, M, h1, h2, h3⟩ := h
  exact ⟨fun k => F k ∧ k < w.heap.size, fun _ hk => hk, A, c, b, K, O, M, ⟨h1, K.lt⟩, ⟨h2, M.lt⟩, fun k hk => ⟨h3 k hk, own_lt O hk⟩⟩
theorem QM.drewN (h : QM w F q l nx ck f) (n : Nat) : QM (w.drewN n) F q l nx ck f := h.below (below_drewN (Below.refl _ _) n)
end
end Go.Proofs.Ytbalhkbpmahkgaa.Oq

namespace Go.Proofs.Ytbalhkbpmahkgaa.Oq
open Go.RowKit

theorem less_any (x y : Ent) (w : World) : Calls Try.prog 41 #[.agg #[.int .i64 x.cost, .int .i64 x.node], .agg #[.int .i64 y.cost, .int .i64 y.node]] w fun e w' => e = .returned (.bool (lt x y)) ∧ Below w.heap.size w w' := by
  obtain ⟨x0, x1, xh, xt⟩ := x
  obtain ⟨y0, y1, yh, yt⟩ := y
  show Calls Try.prog 41 #[.agg #[.int .i64 x0, .int .i64 x1], .agg #[.int .i64 y0, .int .i64 y1]] w fun e w' => e = .returned (.bool (decide (x0 < y0))) ∧ Below w.heap.size w w'
  go_enter Try.func41, Try.ntmps41
  go_wp2_with fail
  go_ret
  exact ⟨rfl, ((Below.refl _ _).alloc (Nat.le_refl _) _).alloc (by simp) _⟩
end Go.Proofs.Ytbalhkbpmahkgaa.Oq
