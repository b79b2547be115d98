/- Automata as data, and how they lie in memory. -/
import Derived.Test.YthpdfgfefmoaaaaTok
namespace Go.Proofs.Ythpdfgfefmoaaaa
open Go.RowKit


structure Dfa where
  cls : List Int
  next : List (List Int)
  acc : List Int

structure DfaV where
  Ac : Option Addr
  nc : Nat
  cc : Nat
  An : Option Addr
  nn : Nat
  cn : Nat
  Aa : Option Addr
  na : Nat
  ca : Nat
def DfaV.cells (v : DfaV) : Array Value := #[.slice v.Ac v.nc v.cc, .slice v.An v.nn v.cn, .slice v.Aa v.na v.ca]

structure DfaAt (w : World) (B : Nat) (v : DfaV) (d : Dfa) : Prop where
  cls : Reads w B 1 v.Ac v.nc (ints d.cls)
  acc : Reads w B 1 v.Aa v.na (ints d.acc)
  rows : ∃ rv : List Value, Reads w B 1 v.An v.nn rv ∧ rv.length = d.next.length ∧ ∀ (i : Nat) (r : List Int), d.next[i]? = some r → ∃ A n c, rv[i]? = some (.slice A n c) ∧ Reads w B 1 A n (ints r) ∧ n ≤ maxLen
  bc : v.nc ≤ maxLen
  bn : v.nn ≤ maxLen
  ba : v.na ≤ maxLen

section
variable {w w' : World} {B B' : Nat} {v : DfaV} {d : Dfa}
theorem DfaAt.keep (h : DfaAt w B v d) (hk : ∀ p : Addr, p.block < B → w'.cell? p = w.cell? p) : DfaAt w' B v d := by
  obtain ⟨h1, h2, ⟨rv, h3, h4, h5⟩, h6, h7, h8⟩ := h
  refine ⟨h1.keep hk, h2.keep hk, ⟨rv, h3.keep hk, h4, fun i r hr => ?_⟩, h6, h7, h8⟩
  obtain ⟨A, n, c, e, hr', hn⟩ := h5 i r hr
  exact ⟨A, n, c, e, hr'.keep hk, hn⟩
theorem DfaAt.below (h : DfaAt w B v d) (hb : Below B w w') : DfaAt w' B v d := h.keep fun _ hp => hb.cell hp
theorem DfaAt.drewN (h : DfaAt w B v d) (k : Nat) : DfaAt (w.drewN k) B v d := h.keep fun _ _ => rfl
theorem DfaAt.alloc (h : DfaAt w B v d) (hB : B ≤ w.heap.size) (o : Obj) : DfaAt (w.alloc o) B v d := h.keep fun p hp => World.cell?_alloc_lt w o p (by omega)
theorem DfaAt.setCell (h : DfaAt w B v d) {p : Addr} (hB : B ≤ p.block) (u : Value) : DfaAt (w.setCell p u) B v d :=
  h.keep fun q hq => World.cell?_setCell_other w p q u (fun e => by subst e; omega)
theorem DfaAt.more (h : DfaAt w B v d) (hB : B ≤ B') : DfaAt w B' v d := by
  obtain ⟨h1, h2, ⟨rv, h3, h4, h5⟩, h6, h7, h8⟩ := h
  refine ⟨h1.more hB, h2.more hB, ⟨rv, h3.more hB, h4, fun i r hr => ?_⟩, h6, h7, h8⟩
  obtain ⟨A, n, c, e, hr', hn⟩ := h5 i r hr
  exact ⟨A, n, c, e, hr'.more hB, hn⟩
theorem DfaAt.len_next (h : DfaAt w B v d) : d.next.length = v.nn := by
  obtain ⟨rv, h3, h4, _⟩ := h.rows
  have := h3.1
  omega
/-- Row i of Next. -/
theorem DfaAt.row_at (h : DfaAt w B v d) {i : Nat} (hi : i < v.nn) :
    ∃ b off A n c r, v.An = some ⟨b, off, none⟩ ∧ b < B ∧ d.next[i]? = some r ∧ w.cell? ⟨b, off + i, none⟩ = some (.slice A n c) ∧ Reads w B 1 A n (ints r) ∧ n ≤ maxLen := by
  obtain ⟨rv, h3, h4, h5⟩ := h.rows
  obtain ⟨b, off, e, hb, hc⟩ := h3.2 (by omega)
  have hl : i < d.next.length := by rw [h.len_next]; exact hi
  obtain ⟨A, n, c, hv, hr, hn⟩ := h5 i _ (List.getElem?_eq_getElem hl)
  exact ⟨b, off, A, n, c, _, e, hb, List.getElem?_eq_getElem hl, hc i _ hv, hr, hn⟩
end

theorem results_dfa {fn : Func} {p : Tmp} (h : fn.results = #[.cell p 25]) {tmps : Array Value} {b o : Nat} (hp : tmps.getD p undef = .pointer (some ⟨b, o, none⟩)) {w : World} {x y z : Option Addr} {n1 n2 n3 c1 c2 c3 : Nat}
    (h0 : w.cell? ⟨b, o, none⟩ = some (.slice x n1 c1)) (h1 : w.cell? ⟨b, o + 1, none⟩ = some (.slice y n2 c2)) (h2 : w.cell? ⟨b, o + 2, none⟩ = some (.slice z n3 c3)) :
    (results fn tmps).run Try.prog w = .ok (.agg #[.slice x n1 c1, .slice y n2 c2, .slice z n3 c3]) w := by
  rw [results_cell h tmps _ hp]
  simp [go_sem, h0, h1, h2]

/-- The automaton is valid (the reference's conditions). -/
structure Dfa.Ok (d : Dfa) (k : Nat) : Prop where
  cls : d.cls.length = 256
  cl : ∀ (i : Nat) (x : Int), d.cls[i]? = some x → 0 ≤ x ∧ x < k
  acc : d.acc.length = d.next.length
  pos : 0 < d.next.length
  row : ∀ (i : Nat) (r : List Int), d.next[i]? = some r → r.length = k ∧ ∀ (j : Nat) (x : Int), r[j]? = some x → -1 ≤ x ∧ x < d.next.length
  al : ∀ (i : Nat) (x : Int), d.acc[i]? = some x → -1 ≤ x

/-- The successor of a state for a byte; the number that a state accepts. -/
def Dfa.to (d : Dfa) (s : Nat) (b : UInt8) : Int := ((d.next[s]?.getD [])[(d.cls[b.toNat]?.getD 0).toNat]?).getD 0
def Dfa.ac (d : Dfa) (s : Nat) : Int := d.acc[s]?.getD 0
theorem Dfa.Ok.to_bd {d : Dfa} {k : Nat} (h : d.Ok k) {s : Nat} (hs : s < d.next.length) (b : UInt8) : -1 ≤ d.to s b ∧ d.to s b < d.next.length := by
  obtain ⟨hr, hx⟩ := h.row s _ (List.getElem?_eq_getElem hs)
  have hb : b.toNat < d.cls.length := by rw [h.cls]; exact b.toNat_lt
  have hc := h.cl b.toNat _ (List.getElem?_eq_getElem hb)
  have hj : (d.cls[b.toNat]).toNat < (d.next[s]).length := by rw [hr]; omega
  have := hx _ _ (List.getElem?_eq_getElem hj)
  simpa [Dfa.to, List.getElem?_eq_getElem hs, List.getElem?_eq_getElem hb, List.getElem?_eq_getElem hj] using this
theorem Dfa.Ok.ac_bd {d : Dfa} {k : Nat} (h : d.Ok k) {s : Nat} (hs : s < d.next.length) : -1 ≤ d.ac s := by
  have := h.al s _ (List.getElem?_eq_getElem (by rw [h.acc]; exact hs))
  simpa [Dfa.ac, List.getElem?_eq_getElem (show s < d.acc.length by rw [h.acc]; exact hs)] using this

/-- What a step reads. -/
theorem DfaAt.step_at {w : World} {B : Nat} {v : DfaV} {d : Dfa} {k : Nat} (h : DfaAt w B v d) (ho : d.Ok k) {s : Nat} (hs : s < d.next.length) (b : UInt8) :
    ∃ bc oc bn on br or_ n c cl, v.Ac = some ⟨bc, oc, none⟩ ∧ v.An = some ⟨bn, on, none⟩ ∧ bc < B ∧ bn < B ∧ br < B ∧ s < v.nn ∧ b.toNat < v.nc ∧ cl < n ∧ n ≤ maxLen ∧
      w.cell? ⟨bc, oc + b.toNat, none⟩ = some (.int .i64 (cl : Nat)) ∧ w.cell? ⟨bn, on + s, none⟩ = some (.slice (some ⟨br, or_, none⟩) n c) ∧ w.cell? ⟨br, or_ + cl, none⟩ = some (.int .i64 (d.to s b)) := by
  have hsn : s < v.nn := by rw [← h.len_next]; exact hs
  have hbn : b.toNat < v.nc := by rw [← h.cls.len_ints, ho.cls]; exact b.toNat_lt
  obtain ⟨bn, on, A, n, c, r, e1, l1, hr, c1, R, hn⟩ := h.row_at hsn
  obtain ⟨bc, oc, e2, l2, c2⟩ := h.cls.int_at hbn
  have hb : b.toNat < d.cls.length := by rw [ho.cls]; exact b.toNat_lt
  have hcl := ho.cl b.toNat _ (List.getElem?_eq_getElem hb)
  obtain ⟨cl, hcle⟩ := Int.eq_ofNat_of_zero_le hcl.1
  have hrk := (ho.row s r hr).1
  have hcn : cl < n := by rw [← R.len_ints, hrk]; omega
  obtain ⟨br, or_, e3, l3, c3⟩ := R.int_at hcn
  subst e3
  refine ⟨bc, oc, bn, on, br, or_, n, c, cl, e2, e1, l2, l1, l3, hsn, hbn, hcn, hn, ?_, c1, ?_⟩
  · rw [c2]; simp [List.getElem?_eq_getElem hb, hcle]
  · rw [c3]; simp [Dfa.to, hr, List.getElem?_eq_getElem hb, hcle]

end Go.Proofs.Ythpdfgfefmoaaaa
