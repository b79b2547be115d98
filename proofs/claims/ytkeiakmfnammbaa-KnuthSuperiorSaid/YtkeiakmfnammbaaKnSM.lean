/- The solver's state in memory. -/
import Derived.Test.YtkeiakmfnammbaaKnSComb
import Derived.Test.YtkeiakmfnammbaaKqLaw0
namespace Go.Proofs.Ytkeiakmfnammbaa
open Go.RowKit

/-- The hyperedges of which a node is a tail. -/
structure Ur where
  A : Option Addr
  c : Nat
  l : List Nat
def ursC (l : List Ur) : List Value := l.map fun u => .slice u.A u.l.length u.c
/-- Where the solver's parts lie. -/
structure SA where
  base : Nat
  sb : Nat
  va : Nat
  sa : Nat
  oa : Nat
  ua : Nat
  q : Nat
  E : Option Addr
  ce : Nat
  N : Nat
  es : List Ed
  us : List Ur
def bools (l : List Bool) : List Value := l.map Value.bool
def SA.cells (a : SA) : Array Value := #[.int .i64 a.N, .slice a.E a.es.length a.ce, .slice (some ⟨a.va, 0, none⟩) a.N a.N, .slice (some ⟨a.sa, 0, none⟩) a.N a.N, .slice (some ⟨a.oa, 0, none⟩) a.es.length a.es.length, .slice (some ⟨a.ua, 0, none⟩) a.N a.N, .pointer (some ⟨a.q, 0, none⟩)]
def RowF (w : World) (a : SA) (F : Nat → Prop) (u : Ur) : Prop := ∀ j k, u.l[j]? = some k → ∃ b off, u.A = some ⟨b, off, none⟩ ∧ ¬ F b ∧ b ≠ a.va ∧ b ≠ a.sa ∧ b ≠ a.oa ∧ w.cell? ⟨b, off + j, none⟩ = some (.int .i64 (k : Nat))
structure SM (w : World) (a : SA) (F : Nat → Prop) (V : List Vl) (S : List Bool) (O : List Int) (L : List Ent) (nx : Nat) : Prop where
  kS : PB w F a.sb 61 a.cells
  kV : PB w F a.va 23 (vls V).toArray
  kB : PB w F a.sa 4 (bools S).toArray
  kO : PB w F a.oa 3 (ints O).toArray
  kU : PB w F a.ua 36 (ursC a.us).toArray
  lV : V.length = a.N
  lS : S.length = a.N
  lO : O.length = a.es.length
  lU : a.us.length = a.N
  rU : ∀ u ∈ a.us, RowF w a F u
  hQ : QB w a.base a.q F L nx nx
  hE : HG w a.base a.E a.es.length a.es
  bs : a.base ≤ w.heap.size
  lo : a.base ≤ a.sb ∧ a.base ≤ a.va ∧ a.base ≤ a.sa ∧ a.base ≤ a.oa ∧ a.base ≤ a.ua
section
variable {w w' : World} {a : SA} {F G : Nat → Prop} {V : List Vl} {S : List Bool} {O : List Int} {L L' : List Ent} {nx nx' : Nat}
theorem RowF.step {u : Ur} (h : RowF w a F u) (hs : Step a.base w F w' G) : RowF w' a G u := fun j k hk => by
  obtain ⟨b, off, h1, h2, h3, h4, h5, h6⟩ := h j k hk
  have hb := World.block_lt_of_cell? w _ h6
  refine ⟨b, off, h1, fun hg => ?_, h3, h4, h5, ?_⟩
  · rcases hs.new b hg with h7 | h7
    · exact h2 h7
    · simp only at hb; omega
  · rw [← h6]
    exact World.cell?_of_block (a := ⟨b, off + j, none⟩) (hs.touch.block b hb h2)
theorem RowF.below {u : Ur} (h : RowF w a F u) (hb : Below w.heap.size w w') : RowF w' a F u := fun j k hk => by
  obtain ⟨b, off, h1, h2, h3, h4, h5, h6⟩ := h j k hk
  have hb' := World.block_lt_of_cell? w _ h6
  exact ⟨b, off, h1, h2, h3, h4, h5, (hb.cell (p := ⟨b, off + j, none⟩) hb').trans h6⟩
theorem RowF.far {u : Ur} (h : RowF w a F u) {p : Addr} (hp : p.block = a.va ∨ p.block = a.sa ∨ p.block = a.oa) (x : Value) : RowF (w.setCell p x) a F u := fun j k hk => by
  obtain ⟨b, off, h1, h2, h3, h4, h5, h6⟩ := h j k hk
  refine ⟨b, off, h1, h2, h3, h4, h5, (World.cell?_setCell_far _ _ _ _ ?_).trans h6⟩
  intro e
  simp only at e
  rcases hp with h | h | h <;> omega
theorem SM.step (h : SM w a F V S O L nx) (hs : Step a.base w F w' G) (hq : QB w' a.base a.q G L' nx' nx') : SM w' a G V S O L' nx' :=
  ⟨h.kS.step hs, h.kV.step hs, h.kB.step hs, h.kO.step hs, h.kU.step hs, h.lV, h.lS, h.lO, h.lU, fun u hu => (h.rU u hu).step hs, hq, h.hE.below (hs.below h.bs), Nat.le_trans h.bs hs.touch.size, h.lo⟩
theorem SM.below (h : SM w a F V S O L nx) (hb : Below w.heap.size w w') : SM w' a F V S O L nx :=
  ⟨h.kS.below hb, h.kV.below hb, h.kB.below hb, h.kO.below hb, h.kU.below hb, h.lV, h.lS, h.lO, h.lU, fun u hu => (h.rU u hu).below hb, h.hQ.below hb, h.hE.below (hb.mono h.bs), Nat.le_trans h.bs hb.size, h.lo⟩
theorem SM.alloc (h : SM w a F V S O L nx) (o : Obj) : SM (w.alloc o) a F V S O L nx := h.below ((Below.refl _ _).alloc (Nat.le_refl _) _)
theorem SM.drewN (h : SM w a F V S O L nx) (n : Nat) : SM (w.drewN n) a F V S O L nx := h.below (below_drewN (Below.refl _ _) n)
theorem PB.far {g : Nat} {t : TypeId} {cs : Array Value} (h : PB w F g t cs) {p : Addr} (hp : g ≠ p.block) (x : Value) : PB (w.setCell p x) F g t cs := ⟨h.1.far hp x, h.2⟩
theorem QB.farCell {base q ck : Nat} (h : QB w base q F L nx ck) {p : Addr} (hp : ¬ F p.block) (x : Value) : QB (w.setCell p x) base q F L nx ck :=
  h.far (N := fun k => k = p.block) ((Touch.refl (fun k => k = p.block) w).setCell (p := p) (.inl rfl) x) (fun k hk e => hp (e ▸ hk))
theorem HG.farCell {B n : Nat} {E : Option Addr} {es : List Ed} (h : HG w B E n es) {p : Addr} (hp : B ≤ p.block) (x : Value) : HG (w.setCell p x) B E n es :=
  h.keep fun r hr => World.cell?_setCell_far _ _ _ _ (by omega)
theorem SM.setO (h : SM w a F V S O L nx) (k : Nat) (x : Int) : SM (w.setCell ⟨a.oa, k, none⟩ (.int .i64 x)) a F V S (O.set k x) L nx := by
  have e1 : a.sb ≠ a.oa := Blk.ne_ h.kS.1 h.kO.1 (by decide)
  have e2 : a.va ≠ a.oa := Blk.ne_ h.kV.1 h.kO.1 (by decide)
  have e3 : a.sa ≠ a.oa := Blk.ne_ h.kB.1 h.kO.1 (by decide)
  have e4 : a.ua ≠ a.oa := Blk.ne_ h.kU.1 h.kO.1 (by decide)
  refine ⟨h.kS.far e1 _, h.kV.far e2 _, h.kB.far e3 _, ⟨?_, h.kO.2⟩, h.kU.far e4 _, h.lV, h.lS, by rw [List.length_set]; exact h.lO, h.lU, fun u hu => (h.rU u hu).far (.inr (.inr rfl)) _, h.hQ.farCell h.kO.2 _, h.hE.farCell h.lo.2.2.2.1 _, by simpa [World.setCell] using h.bs, h.lo⟩
  have := h.kO.1.set_ k (.int .i64 x)
  have e : (ints (O.set k x)).toArray = (ints O).toArray.setIfInBounds k (.int .i64 x) := by simp [ints, List.map_set]
  rw [e]
  exact this
theorem SM.setB (h : SM w a F V S O L nx) (k : Nat) (x : Bool) : SM (w.setCell ⟨a.sa, k, none⟩ (.bool x)) a F V (S.set k x) O L nx := by
  have e1 : a.sb ≠ a.sa := Blk.ne_ h.kS.1 h.kB.1 (by decide)
  have e2 : a.va ≠ a.sa := Blk.ne_ h.kV.1 h.kB.1 (by decide)
  have e3 : a.oa ≠ a.sa := Blk.ne_ h.kO.1 h.kB.1 (by decide)
  have e4 : a.ua ≠ a.sa := Blk.ne_ h.kU.1 h.kB.1 (by decide)
  refine ⟨h.kS.far e1 _, h.kV.far e2 _, ⟨?_, h.kB.2⟩, h.kO.far e3 _, h.kU.far e4 _, h.lV, by rw [List.length_set]; exact h.lS, h.lO, h.lU, fun u hu => (h.rU u hu).far (.inr (.inl rfl)) _, h.hQ.farCell h.kB.2 _, h.hE.farCell h.lo.2.2.1 _, by simpa [World.setCell] using h.bs, h.lo⟩
  have := h.kB.1.set_ k (.bool x)
  have e : (bools (S.set k x)).toArray = (bools S).toArray.setIfInBounds k (.bool x) := by simp [bools, List.map_set]
  rw [e]
  exact this
theorem SM.setV (h : SM w a F V S O L nx) {k : Nat} (hk : k < a.N) (v : Vl) : SM ((w.setCell ⟨a.va, k * 2, none⟩ (.int .i64 v.c)).setCell ⟨a.va, k * 2 + 1, none⟩ (.int .i64 v.s)) a F (V.set k v) S O L nx := by
  have e1 : a.sb ≠ a.va := Blk.ne_ h.kS.1 h.kV.1 (by decide)
  have e2 : a.sa ≠ a.va := Blk.ne_ h.kB.1 h.kV.1 (by decide)
  have e3 : a.oa ≠ a.va := Blk.ne_ h.kO.1 h.kV.1 (by decide)
  have e4 : a.ua ≠ a.va := Blk.ne_ h.kU.1 h.kV.1 (by decide)
  refine ⟨(h.kS.far (p := ⟨a.va, k * 2, none⟩) e1 _).far (p := ⟨a.va, k * 2 + 1, none⟩) e1 _, ⟨h.kV.1.vl_put (by rw [h.lV]; exact hk) v, h.kV.2⟩, (h.kB.far (p := ⟨a.va, k * 2, none⟩) e2 _).far (p := ⟨a.va, k * 2 + 1, none⟩) e2 _, (h.kO.far (p := ⟨a.va, k * 2, none⟩) e3 _).far (p := ⟨a.va, k * 2 + 1, none⟩) e3 _, (h.kU.far (p := ⟨a.va, k * 2, none⟩) e4 _).far (p := ⟨a.va, k * 2 + 1, none⟩) e4 _, by rw [List.length_set]; exact h.lV, h.lS, h.lO, h.lU, fun u hu => ((h.rU u hu).far (p := ⟨a.va, k * 2, none⟩) (.inl rfl) _).far (p := ⟨a.va, k * 2 + 1, none⟩) (.inl rfl) _, (h.hQ.farCell (p := ⟨a.va, k * 2, none⟩) h.kV.2 _).farCell (p := ⟨a.va, k * 2 + 1, none⟩) h.kV.2 _, (h.hE.farCell (p := ⟨a.va, k * 2, none⟩) h.lo.2.1 _).farCell (p := ⟨a.va, k * 2 + 1, none⟩) h.lo.2.1 _, by simpa [World.setCell] using h.bs, h.lo⟩
theorem SM.bool_at (h : SM w a F V S O L nx) {k : Nat} {x : Bool} (hk : S[k]? = some x) : w.cell? ⟨a.sa, k, none⟩ = some (.bool x) := by
  rw [h.kB.1.cell]
  simp [bools, hk]
theorem SM.open_at (h : SM w a F V S O L nx) {k : Nat} {x : Int} (hk : O[k]? = some x) : w.cell? ⟨a.oa, k, none⟩ = some (.int .i64 x) := by
  rw [h.kO.1.cell]
  simp [ints, hk]
theorem SM.uses_at (h : SM w a F V S O L nx) {k : Nat} {x : Ur} (hk : a.us[k]? = some x) : w.cell? ⟨a.ua, k, none⟩ = some (.slice x.A x.l.length x.c) := by
  rw [h.kU.1.cell]
  simp [ursC, hk]
end
/-- Whether the candidate of a hyperedge is offered; the queue behind it. -/
def offc (V : List Vl) (S : List Bool) (e : Ed) : Bool := decide ((ev (gv V) e).c < 1099511627776) && !(S[e.hd.toNat]?.getD true)
def offL (V : List Vl) (S : List Bool) (e : Ed) (L : List Ent) (nx : Nat) : List Ent := if offc V S e then L ++ [⟨e.hd, (ev (gv V) e).c, (ev (gv V) e).s, nx, nx⟩] else L
def offN (V : List Vl) (S : List Bool) (e : Ed) (nx : Nat) : Nat := if offc V S e then nx + 1 else nx
end Go.Proofs.Ytkeiakmfnammbaa
