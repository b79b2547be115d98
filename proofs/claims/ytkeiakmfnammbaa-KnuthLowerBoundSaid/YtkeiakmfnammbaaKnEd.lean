/- Hyperedges in memory; fresh rows of values. -/
import Derived.Test.YtkeiakmfnammbaaKnComb
import Derived.Deep.OwnRows
namespace Go.Proofs.Ytkeiakmfnammbaa
open Go.RowKit

structure Ed where
  hd : Int
  ts : List Int
  cost : Int
  l0 : Int
  l1 : Int
  A : Option Addr
  c : Nat
def Ed.cells (e : Ed) : List Value := [.int .i64 e.hd, .slice e.A e.ts.length e.c, .int .i64 e.cost, .int .i64 e.l0, .int .i64 e.l1]
def eds (l : List Ed) : List Value := l.flatMap Ed.cells
theorem eds_length (l : List Ed) : (eds l).length = l.length * 5 := by
  induction l with
  | nil => rfl
  | cons t l ih => simp only [eds, List.flatMap_cons, List.length_append] at *; rw [ih]; simp [Ed.cells]; omega
theorem eds_append (l m : List Ed) : eds (l ++ m) = eds l ++ eds m := by simp [eds]
theorem eds_at : ∀ (l : List Ed) (k : Nat) (t : Ed) (j : Nat), l[k]? = some t → j < 5 → (eds l)[k * 5 + j]? = t.cells[j]?
  | [], _, _, _, h, _ => by simp at h
  | x :: l, 0, t, j, h, hj => by
    simp at h
    subst h
    simp only [eds, List.flatMap_cons]
    rw [List.getElem?_append_left (by simp [Ed.cells]; omega)]
    simp
  | x :: l, k + 1, t, j, h, hj => by
    simp at h
    have := eds_at l k t j h hj
    simp only [eds, List.flatMap_cons] at *
    rw [List.getElem?_append_right (by simp [Ed.cells]; omega)]
    rw [← this]
    congr 1
    simp [Ed.cells]; omega
theorem eds_one {l : List Ed} {u : Value} (h : u ∈ eds l) : u.oneCell' = true := by
  simp only [eds, List.mem_flatMap] at h
  obtain ⟨t, _, h⟩ := h
  simp [Ed.cells] at h
  rcases h with rfl | rfl | rfl | rfl | rfl <;> rfl
/-- The hyperedges as they lie, with their tails. -/
def HG (w : World) (B : Nat) (E : Option Addr) (n : Nat) (es : List Ed) : Prop := Reads w B 5 E n (eds es) ∧ ∀ e ∈ es, Reads w B 1 e.A e.ts.length (ints e.ts)
section
variable {w w' : World} {B B' n : Nat} {E : Option Addr} {es : List Ed}
theorem HG.below (h : HG w B E n es) (hb : Below B w w') : HG w' B E n es := ⟨h.1.below hb, fun e he => (h.2 e he).below hb⟩
theorem HG.more (h : HG w B E n es) (hB : B ≤ B') : HG w B' E n es := ⟨h.1.more hB, fun e he => (h.2 e he).more hB⟩
theorem HG.keep (h : HG w B E n es) (hk : ∀ p : Addr, p.block < B → w'.cell? p = w.cell? p) : HG w' B E n es := ⟨h.1.keep hk, fun e he => (h.2 e he).keep hk⟩
theorem HG.len (h : HG w B E n es) : es.length = n := by have := h.1.1; rw [eds_length] at this; omega
theorem HG.at_ (h : HG w B E n es) {k : Nat} (hk : k < n) :
    ∃ b off e, E = some ⟨b, off, none⟩ ∧ b < B ∧ es[k]? = some e ∧ w.cell? ⟨b, off + k * 5, none⟩ = some (.int .i64 e.hd) ∧ w.cell? ⟨b, off + k * 5 + 1, none⟩ = some (.slice e.A e.ts.length e.c) ∧ w.cell? ⟨b, off + k * 5 + 2, none⟩ = some (.int .i64 e.cost) ∧ w.cell? ⟨b, off + k * 5 + 3, none⟩ = some (.int .i64 e.l0) ∧ w.cell? ⟨b, off + k * 5 + 4, none⟩ = some (.int .i64 e.l1) ∧ Reads w B 1 e.A e.ts.length (ints e.ts) := by
  obtain ⟨b, off, e, hb, hc⟩ := h.1.2 (by omega)
  have hl : k < es.length := by rw [h.len]; exact hk
  have ht := List.getElem?_eq_getElem hl
  refine ⟨b, off, es[k], e, hb, ht, ?_, ?_, ?_, ?_, ?_, h.2 _ (List.getElem_mem hl)⟩
  · have := hc (k * 5 + 0) (.int .i64 es[k].hd) (by rw [eds_at es k _ 0 ht (by omega)]; rfl)
    simpa using this
  · have := hc (k * 5 + 1) (.slice es[k].A es[k].ts.length es[k].c) (by rw [eds_at es k _ 1 ht (by omega)]; rfl)
    simpa [Nat.add_assoc] using this
  · have := hc (k * 5 + 2) (.int .i64 es[k].cost) (by rw [eds_at es k _ 2 ht (by omega)]; rfl)
    simpa [Nat.add_assoc] using this
  · have := hc (k * 5 + 3) (.int .i64 es[k].l0) (by rw [eds_at es k _ 3 ht (by omega)]; rfl)
    simpa [Nat.add_assoc] using this
  · have := hc (k * 5 + 4) (.int .i64 es[k].l1) (by rw [eds_at es k _ 4 ht (by omega)]; rfl)
    simpa [Nat.add_assoc] using this
end
/-- The value of node i. -/
def gv (V : List Vl) (i : Nat) : Vl := V[i]?.getD vtop
/-- A valid hyperedge of a graph of N nodes. -/
structure Ed.Ok (e : Ed) (N : Nat) : Prop where
  hd : 0 ≤ e.hd ∧ e.hd < N
  cost : 0 ≤ e.cost ∧ e.cost ≤ 1099511627776
  ts : ∀ t ∈ e.ts, 0 ≤ t ∧ t < N
  few : e.ts.length ≤ 4
def tlv (V : Nat → Vl) (ts : List Int) : List Vl := ts.map fun t => V t.toNat
/-- What a hyperedge yields. -/
def ev (V : Nat → Vl) (e : Ed) : Vl := comb e.cost (tlv V e.ts)

theorem infoVl : (Try.prog.info? 23).map (fun i => (i.zero, i.size, i.bytes)) = some (some (.agg #[.int .i64 0, .int .i64 0]), 2, 16) := by kernel_rfl
theorem vls_zero (n : Nat) : madeCells #[.int .i64 0, .int .i64 0] (n * 2) = (vls (List.replicate n ⟨0, 0⟩)).toArray := by
  apply Array.ext_getElem?
  intro j
  have e1 : vls (List.replicate n (⟨0, 0⟩ : Vl)) = List.replicate (n * 2) (.int .i64 0) := by
    induction n with
    | zero => rfl
    | succ n ih =>
      rw [List.replicate_succ, show (n + 1) * 2 = n * 2 + 1 + 1 by omega, List.replicate_succ, List.replicate_succ, ← ih]
      simp [vls, Vl.cells]
  rw [e1]
  simp only [madeCells, Array.getElem?_map, List.getElem?_toArray, List.getElem?_replicate]
  by_cases hj : j < n * 2
  · rw [Array.getElem?_range, if_pos hj, if_pos hj]
    have : j % 2 = 0 ∨ j % 2 = 1 := by omega
    rcases this with h | h <;> simp [h]
  · rw [Array.getElem?_range, if_neg hj, if_neg hj]
    rfl
theorem run_make_vls (n : Nat) (hn : n ≤ 1000000) (w : World) : (Instr.makeSlice 27 (.int .i64 (n : Int)) (.int .i64 (n : Int))).run Try.prog w = .ok (.slice (some ⟨w.heap.size, 0, none⟩) n n) (w.alloc (.cells (vls (List.replicate n ⟨0, 0⟩)).toArray 23)) := by
  obtain ⟨i, hi, hzz⟩ := Option.map_eq_some_iff.1 infoVl
  simp only [Prod.mk.injEq] at hzz
  obtain ⟨hz, hs, hb⟩ := hzz
  have h := run_make (P := Try.prog) w 27 23 i _ Try.underlying27 hi hz .i64 .i64 (n : Int) (n : Int) (by omega) (by omega) (by rw [hb]; omega) (by omega)
  rw [h]
  have e : (Value.agg #[.int .i64 0, .int .i64 0]).cells = #[.int .i64 0, .int .i64 0] := by rfl
  rw [e, hs, Int.toNat_natCast, vls_zero]
def vpre (f : Int → Vl) (ts : List Int) (i : Nat) : List Vl := (ts.take i).map f ++ List.replicate (ts.length - i) ⟨0, 0⟩
theorem vpre_length (f : Int → Vl) (ts : List Int) (i : Nat) (hi : i ≤ ts.length) : (vpre f ts i).length = ts.length := by simp [vpre]; omega
theorem vpre_set {f : Int → Vl} {ts : List Int} {i : Nat} {t : Int} (h : ts[i]? = some t) : (vpre f ts i).set i (f t) = vpre f ts (i + 1) := by
  have hi := (List.getElem?_eq_some_iff.1 h).1
  unfold vpre
  rw [List.set_append_right _ _ (by simp; omega)]
  rw [List.take_add_one, h]
  have e1 : ts.length - i = (ts.length - (i + 1)) + 1 := by omega
  rw [e1, List.replicate_succ]
  have e2 : i - ((ts.take i).map f).length = 0 := by simp; omega
  rw [e2]
  simp
theorem vpre_end (f : Int → Vl) (ts : List Int) : vpre f ts ts.length = ts.map f := by simp [vpre]
end Go.Proofs.Ytkeiakmfnammbaa
