/- A span in memory; values, offers, arcs. -/
import Derived.Test.YthakcefgbggkcaaDoorCMa
import Derived.Test.YthakcefgbggkcaaDoorCMb
import Derived.Test.YthakcefgbggkcaaDoorCMd
import Derived.Maps.AppendAt
import Derived.RegionTactic
import Derived.OwnWalk
import Derived.StillTailTactics
import Derived.Shelf.SlSorted.Search
import Derived.Shelf.Lay
import Derived.Ground.SlsoProg
namespace Go.Proofs.YthakcefgbggkcaaDoor
open Go.RowKit

/-- Where the parts of a span's computation lie, and what it reads. -/
structure SP where
  base : Nat
  sp : Nat
  cb : Nat
  bb : Nat
  fb : Nat
  hb : Nat
  q : Nat
  T : Int
  st : Int
  N : Nat
  S : Nat
  RA : Option Addr
  rc : Nat
  R : List Rl
  LA : Option Addr
  lc : Nat
  L : List Ar
  FA : Option Addr
  nf : Nat
  fc : Nat
  CA : Option Addr
  cc : Nat
  cs : List Cl
  s : Nat
  t : Nat
def bools (l : List Bool) : List Value := l.map Value.bool
def SP.cells (a : SP) : Array Value := #[.int .i64 a.T, .int .i64 a.N, .int .i64 a.st, .slice a.RA a.R.length a.rc, .int .i64 a.S, .slice a.LA a.L.length a.lc, .slice a.FA a.nf a.fc, .int .i64 a.N, .int .i64 a.S, .slice a.CA a.cs.length a.cc,
  .int .i64 a.s, .int .i64 a.t, .slice (some ⟨a.bb, 0, none⟩) a.N a.N, .slice (some ⟨a.fb, 0, none⟩) a.N a.N, .slice (some ⟨a.hb, 0, none⟩) a.N a.N, .pointer (some ⟨a.q, 0, none⟩)]
/-- The values given. -/
def SP.C (a : SP) (x : It) : Vl := (atC a.N a.S a.cs x).v
def SP.Z (a : SP) (V : List Vl) : Zq := ⟨a.cb, a.sp, a.bb, a.N, V⟩
/-- What holds of a span throughout. -/
structure SP.Ok (a : SP) : Prop where
  R : ∀ r ∈ a.R, r.Ok a.N
  L : ArsOk a.S a.L
  C : ∀ x, Nrm (a.C x)
  st : a.s ≤ a.t
  tS : a.t < a.S
  N1 : a.N ≤ 1000
  S1 : a.S ≤ 200
  nR : a.R.length ≤ 600
  nL : a.L.length ≤ 10000
  nC : a.cs.length ≤ 1000000000
  g : 0 < a.base
/-- What a span reads. -/
structure Rd (w : World) (a : SP) : Prop where
  kS : Blk w a.sp 87 a.cells
  rR : Reads w a.base 6 a.RA a.R.length (rls a.R)
  rL : Reads w a.base 5 a.LA a.L.length (ars a.L)
  rC : Reads w a.base 4 a.CA a.cs.length (cls a.cs)
  g : NoneAt w
  bs : a.base ≤ w.heap.size
structure SM (w : World) (a : SP) (F : Nat → Prop) (V : List Vl) (B : List Bool) (H : List Int) (Q : List Ent) (nx ck : Nat) : Prop where
  rd : Rd w a
  nS : ¬ F a.sp
  kC : PB w F a.cb 83 #[.pointer (some ⟨a.sp, 0, none⟩)]
  kV : PB w F a.bb 45 (vls V).toArray
  kB : PB w F a.fb 4 (bools B).toArray
  kH : PB w F a.hb 3 (ints H).toArray
  lV : V.length = a.N
  lB : B.length = a.N
  lH : H.length = a.N
  hQ : QB w a.base a.cb a.q F Q nx ck
  lo : a.base ≤ a.sp ∧ a.base ≤ a.cb ∧ a.base ≤ a.bb ∧ a.base ≤ a.fb ∧ a.base ≤ a.hb
section
variable {w w' : World} {a : SP} {F G : Nat → Prop} {V : List Vl} {B : List Bool} {H : List Int} {Q Q' : List Ent} {nx ck nx' ck' : Nat}
theorem Rd.below (h : Rd w a) (hb : Below w.heap.size w w') (hg : 0 < a.base) : Rd w' a :=
  ⟨h.kS.below hb h.kS.lt, h.rR.below (hb.mono h.bs), h.rL.below (hb.mono h.bs), h.rC.below (hb.mono h.bs), h.g.below (hb.mono h.bs) hg, Nat.le_trans h.bs hb.size⟩
theorem Rd.touch (h : Rd w a) (hk : Blk w' a.sp 87 a.cells) (hb : Below a.base w w') (hg : 0 < a.base) : Rd w' a :=
  ⟨hk, h.rR.below hb, h.rL.below hb, h.rC.below hb, h.g.below hb hg, Nat.le_trans h.bs hb.size⟩
theorem PB.far {g : Nat} {t : TypeId} {cs : Array Value} (h : PB w F g t cs) {p : Addr} (hp : g ≠ p.block) (x : Value) : PB (w.setCell p x) F g t cs := ⟨h.1.far hp x, h.2⟩
theorem QB.farCell {base cb q ck : Nat} (h : QB w base cb q F Q nx ck) {p : Addr} (hp : ¬ F p.block) (x : Value) : QB (w.setCell p x) base cb q F Q nx ck :=
  h.far (N := fun k => k = p.block) ((Touch.refl (fun k => k = p.block) w).setCell (p := p) (.inl rfl) x) (fun _ hk e => hp (e ▸ hk))
theorem Rd.farCell (h : Rd w a) {p : Addr} (hp : a.sp ≠ p.block) (hb : a.base ≤ p.block) (hg : 0 < a.base) (x : Value) : Rd (w.setCell p x) a :=
  h.touch (h.kS.far hp x) ((Below.refl _ _).setCell hb x) hg
theorem SM.below (h : SM w a F V B H Q nx ck) (hb : Below w.heap.size w w') (hg : 0 < a.base) : SM w' a F V B H Q nx ck :=
  ⟨h.rd.below hb hg, h.nS, h.kC.below hb, h.kV.below hb, h.kB.below hb, h.kH.below hb, h.lV, h.lB, h.lH, h.hQ.below hb, h.lo⟩
theorem SM.step (h : SM w a F V B H Q nx ck) (hs : Step a.base w F w' G) (hq : QB w' a.base a.cb a.q G Q' nx' ck') (hg : 0 < a.base) : SM w' a G V B H Q' nx' ck' :=
  have hsp : PB w F a.sp 87 a.cells := ⟨h.rd.kS, h.nS⟩
  ⟨h.rd.touch (hsp.step hs).1 (hs.below h.rd.bs) hg, (hsp.step hs).2, h.kC.step hs, h.kV.step hs, h.kB.step hs, h.kH.step hs, h.lV, h.lB, h.lH, hq, h.lo⟩
theorem SM.nes (h : SM w a F V B H Q nx ck) : a.sp ≠ a.bb ∧ a.sp ≠ a.fb ∧ a.sp ≠ a.hb ∧ a.cb ≠ a.bb ∧ a.cb ≠ a.fb ∧ a.cb ≠ a.hb ∧ a.bb ≠ a.fb ∧ a.bb ≠ a.hb ∧ a.fb ≠ a.hb :=
  ⟨Blk.ne_ h.rd.kS h.kV.1 (by decide), Blk.ne_ h.rd.kS h.kB.1 (by decide), Blk.ne_ h.rd.kS h.kH.1 (by decide), Blk.ne_ h.kC.1 h.kV.1 (by decide), Blk.ne_ h.kC.1 h.kB.1 (by decide), Blk.ne_ h.kC.1 h.kH.1 (by decide), Blk.ne_ h.kV.1 h.kB.1 (by decide), Blk.ne_ h.kV.1 h.kH.1 (by decide), Blk.ne_ h.kB.1 h.kH.1 (by decide)⟩
theorem SM.setH (h : SM w a F V B H Q nx ck) (hg : 0 < a.base) (k : Nat) (x : Int) : SM (w.setCell ⟨a.hb, k, none⟩ (.int .i64 x)) a F V B (H.set k x) Q nx ck := by
  obtain ⟨e1, e2, e3, e4, e5, e6, e7, e8, e9⟩ := h.nes
  refine ⟨h.rd.farCell e3 h.lo.2.2.2.2 hg _, h.nS, h.kC.far e6 _, h.kV.far e8 _, h.kB.far e9 _, ⟨?_, h.kH.2⟩, h.lV, h.lB, by rw [List.length_set]; exact h.lH, h.hQ.farCell h.kH.2 _, h.lo⟩
  have := h.kH.1.set_ k (.int .i64 x)
  have e : (ints (H.set k x)).toArray = (ints H).toArray.setIfInBounds k (.int .i64 x) := by simp [ints, List.map_set]
  rw [e]
  exact this
theorem SM.setB (h : SM w a F V B H Q nx ck) (hg : 0 < a.base) (k : Nat) (x : Bool) : SM (w.setCell ⟨a.fb, k, none⟩ (.bool x)) a F V (B.set k x) H Q nx ck := by
  obtain ⟨e1, e2, e3, e4, e5, e6, e7, e8, e9⟩ := h.nes
  refine ⟨h.rd.farCell e2 h.lo.2.2.2.1 hg _, h.nS, h.kC.far e5 _, h.kV.far e7 _, ⟨?_, h.kB.2⟩, h.kH.far (fun e => e9 e.symm) _, h.lV, by rw [List.length_set]; exact h.lB, h.lH, h.hQ.farCell h.kB.2 _, h.lo⟩
  have := h.kB.1.set_ k (.bool x)
  have e : (bools (B.set k x)).toArray = (bools B).toArray.setIfInBounds k (.bool x) := by simp [bools, List.map_set]
  rw [e]
  exact this
theorem SM.setV (h : SM w a F V B H Q nx ck) (hg : 0 < a.base) {k : Nat} (hk : k < a.N) (v : Vl) : SM ((w.setCell ⟨a.bb, k * 2, none⟩ (.int .i64 v.c)).setCell ⟨a.bb, k * 2 + 1, none⟩ (.int .i64 v.s)) a F (V.set k v) B H Q nx ck := by
  obtain ⟨e1, e2, e3, e4, e5, e6, e7, e8, e9⟩ := h.nes
  exact ⟨(h.rd.farCell (p := ⟨a.bb, k * 2, none⟩) e1 h.lo.2.2.1 hg _).farCell (p := ⟨a.bb, k * 2 + 1, none⟩) e1 h.lo.2.2.1 hg _, h.nS, (h.kC.far (p := ⟨a.bb, k * 2, none⟩) e4 _).far (p := ⟨a.bb, k * 2 + 1, none⟩) e4 _, ⟨h.kV.1.vl_put (by rw [h.lV]; exact hk) v, h.kV.2⟩, (h.kB.far (p := ⟨a.bb, k * 2, none⟩) (fun e => e7 e.symm) _).far (p := ⟨a.bb, k * 2 + 1, none⟩) (fun e => e7 e.symm) _, (h.kH.far (p := ⟨a.bb, k * 2, none⟩) (fun e => e8 e.symm) _).far (p := ⟨a.bb, k * 2 + 1, none⟩) (fun e => e8 e.symm) _, by rw [List.length_set]; exact h.lV, h.lB, h.lH, (h.hQ.farCell (p := ⟨a.bb, k * 2, none⟩) h.kV.2 _).farCell (p := ⟨a.bb, k * 2 + 1, none⟩) h.kV.2 _, h.lo⟩
theorem SM.bool_at (h : SM w a F V B H Q nx ck) {k : Nat} {x : Bool} (hk : B[k]? = some x) : w.cell? ⟨a.fb, k, none⟩ = some (.bool x) := by
  rw [h.kB.1.cell]
  simp [bools, hk]
theorem SM.hand_at (h : SM w a F V B H Q nx ck) {k : Nat} {x : Int} (hk : H[k]? = some x) : w.cell? ⟨a.hb, k, none⟩ = some (.int .i64 x) := by
  rw [h.kH.1.cell]
  simp [ints, hk]
theorem SM.env (h : SM w a F V B H Q nx ck) : Env w (a.Z V) := ⟨h.kC.1, h.rd.kS.cell 12, h.kV.1, h.lV⟩
theorem SM.apart (h : SM w a F V B H Q nx ck) : ∀ k, (a.Z V).D k → ¬ F k := fun k hk hf => by
  rcases hk with e | e | e
  · exact h.kC.2 (by rw [e] at hf; exact hf)
  · exact h.nS (by rw [e] at hf; exact hf)
  · exact h.kV.2 (by rw [e] at hf; exact hf)
end
/-- What the span's functions turn: the queue, the rows. -/
structure Stp (a : SP) (w : World) (F : Nat → Prop) (w' : World) (G : Nat → Prop) : Prop where
  touch : Touch (fun k => F k ∨ k = a.bb ∨ k = a.fb ∨ k = a.hb) w w'
  new : ∀ k, G k → F k ∨ w.heap.size ≤ k
section
variable {a : SP} {w w1 w' : World} {F G K : Nat → Prop}
theorem Stp.of_below (hb : Below w.heap.size w w') : Stp a w F w' F := ⟨Touch.of_below hb, fun _ hk => .inl hk⟩
theorem Stp.refl (a : SP) (w : World) (F : Nat → Prop) : Stp a w F w F := Stp.of_below (Below.refl _ _)
theorem Stp.trans (h : Stp a w F w1 G) (h' : Stp a w1 G w' K) : Stp a w F w' K :=
  ⟨h.touch.trans h'.touch (fun k hk => by
    rcases hk with h1 | h1
    · rcases h.new k h1 with h2 | h2
      · exact .inl (.inl h2)
      · exact .inr h2
    · exact .inl (.inr h1)), fun k hk => by
    rcases h'.new k hk with h1 | h1
    · exact h.new k h1
    · exact .inr (Nat.le_trans h.touch.size h1)⟩
theorem Stp.next (h : Stp a w F w1 G) (hb : Below w1.heap.size w1 w') : Stp a w F w' G := h.trans (Stp.of_below hb)
theorem Stp.of_step (h : Step a.base w F w' G) : Stp a w F w' G := ⟨h.touch.mono (fun _ hk => .inl hk), h.new⟩
theorem Stp.setCell (h : Stp a w F w1 G) {p : Addr} (hp : p.block = a.bb ∨ p.block = a.fb ∨ p.block = a.hb) (x : Value) : Stp a w F (w1.setCell p x) G :=
  h.trans ⟨(Touch.refl _ w1).setCell (.inl (.inr hp)) x, fun _ hk => .inl hk⟩
/-- Nothing below the base is turned. -/
theorem Stp.toBelow (h : Stp a w F w' G) (hF : ∀ k, F k → a.base ≤ k) (hlo : a.base ≤ a.bb ∧ a.base ≤ a.fb ∧ a.base ≤ a.hb) (hB : a.base ≤ w.heap.size) : Below a.base w w' :=
  h.touch.toBelow (fun k hk => by
    rcases hk with h1 | h1 | h1 | h1
    · exact hF k h1
    · omega
    · omega
    · omega) hB
/-- A block of the caller's, apart from what the span turns. -/
theorem Blk.stp {g : Nat} {t : TypeId} {cs : Array Value} (h : Blk w g t cs) (hs : Stp a w F w' G) (h1 : ¬ F g) (h2 : g ≠ a.bb ∧ g ≠ a.fb ∧ g ≠ a.hb) : Blk w' g t cs :=
  h.touch hs.touch (fun hf => by rcases hf with e | e | e | e; exact h1 e; exact h2.1 e; exact h2.2.1 e; exact h2.2.2 e)
end
/-- The marks and handles fit the values and the queue. -/
structure QI (N : Nat) (V : List Vl) (B : List Bool) (H : List Int) (Q : List Ent) : Prop where
  nV : ∀ i, Nrm (gv V i)
  ent : ∀ e ∈ Q, ∃ j : Nat, j < N ∧ e.node = (j : Nat) ∧ B[j]? = some false ∧ H[j]? = some (e.h : Int) ∧ V[j]? = some ⟨e.cost, e.size⟩ ∧ e.cost < 1099511627776
  neg : ∀ j < N, H[j]? = some (-1) → gv V j = vtop ∧ B[j]? = some false
  pos : ∀ (j : Nat) (x : Int), j < N → H[j]? = some x → x ≠ -1 → 0 ≤ x ∧ (B[j]? = some true ∨ ∃ e ∈ Q, e.node = (j : Nat))
  fin : ∀ j, B[j]? = some true → (gv V j).c < 1099511627776
/-- The state of a span: the values, what is final; at most m offers were made. -/
def ST (w : World) (a : SP) (F : Nat → Prop) (V : List Vl) (B : List Bool) (m : Nat) : Prop := ∃ H Q nx ck, SM w a F V B H Q nx ck ∧ QI a.N V B H Q ∧ nx ≤ m ∧ ck ≤ m
theorem QI.coh {w : World} {a : SP} {F : Nat → Prop} {V : List Vl} {B : List Bool} {H : List Int} {Q : List Ent} {nx ck : Nat} (h : QI a.N V B H Q) (_ : SM w a F V B H Q nx ck) : ∀ e ∈ Q, Coh (a.Z V) e := fun e he => by
  obtain ⟨j, h1, h2, _, _, h5, _⟩ := h.ent e he
  exact ⟨j, h1, h2, h5⟩
theorem ST.below {w w' : World} {a : SP} {F : Nat → Prop} {V : List Vl} {B : List Bool} {m : Nat} (h : ST w a F V B m) (hb : Below w.heap.size w w') (hg : 0 < a.base) : ST w' a F V B m := by
  obtain ⟨H, Q, nx, ck, h1, h2, h3⟩ := h
  exact ⟨H, Q, nx, ck, h1.below hb hg, h2, h3⟩
theorem ST.more {w : World} {a : SP} {F : Nat → Prop} {V : List Vl} {B : List Bool} {m m' : Nat} (h : ST w a F V B m) (hm : m ≤ m') : ST w a F V B m' := by
  obtain ⟨H, Q, nx, ck, h1, h2, h3, h4⟩ := h
  exact ⟨H, Q, nx, ck, h1, h2, by omega, by omega⟩
theorem ST.rd {w : World} {a : SP} {F : Nat → Prop} {V : List Vl} {B : List Bool} {m : Nat} (h : ST w a F V B m) : Rd w a := by
  obtain ⟨H, Q, nx, ck, h1, _⟩ := h
  exact h1.rd
/-- The values behind an offer. -/
def offV (V : List Vl) (B : List Bool) (h : Nat) (v : Vl) : List Vl := if B[h]? = some false ∧ v.c < 1099511627776 ∧ vlt v.c v.s (gv V h).c (gv V h).s = true then V.set h v else V
theorem vlt_iff {c s c' s' : Int} : vlt c s c' s' = true ↔ c < c' ∨ (c = c' ∧ s < s') := by
  unfold vlt
  simp
theorem gv_at {V : List Vl} {i : Nat} {v : Vl} (h : V[i]? = some v) : gv V i = v := by simp [gv, h]
end Go.Proofs.YthakcefgbggkcaaDoor

namespace Go.Proofs.YthakcefgbggkcaaDoor
open Go.RowKit

section
variable {P : Program} (w : World)

theorem run_append_of_nil (base : Nat) (t ty e : TypeId) (i : TypeInfo) (size : Nat) (ht : P.underlying t = some (.slice e)) (hi : P.info? e = some i)
    (v : Value) (n : Nat) (xs : List Value) (hown : w.ownsRow base e size v n xs) (c : Nat) : (Builtin.append_ #[t, t] ty #[v, .slice none 0 c]).run P w = .ok v w := by
  rcases hown.2 with ⟨rfl, rfl⟩ | ⟨g, cap, cur, rfl, _, _, hnc, _⟩
  · simp [Builtin.append_, run_underlying ht, sizeOf, typeInfo, hi, Builtin.lenOf, Builtin.firstCells]
  · simp [Builtin.append_, run_underlying ht, sizeOf, typeInfo, hi, Builtin.lenOf, Builtin.firstCells, hnc, storeCells]

theorem run_append_any (base : Nat) (t ty e : TypeId) (i : TypeInfo) (z : Value) (size bytes : Nat) (ht : P.underlying t = some (.slice e)) (hi : P.info? e = some i) (hz : i.zero = some z)
    (hsize : i.size = size) (hby : i.bytes = bytes) (hzs : z.cells.size = size) (hsz : 0 < size)
    (v : Value) (n : Nat) (xs : List Value) (hown : w.ownsRow base e size v n xs)
    (B : Nat) (A : Option Addr) (m c : Nat) (news : List Value) (hr : Reads w B size A m news) (h1 : ∀ u ∈ news, u.oneCell' = true)
    (h63 : n + m ≤ maxLen) (hbytes : (n + m) * bytes ≤ 140737488355328) (hbase : base ≤ w.heap.size) :
    ∃ v' w', (Builtin.append_ #[t, t] ty #[v, .slice A m c]).run P w = .ok v' w' ∧ w'.ownsRow base e size v' (n + m) (xs ++ news) ∧ w.grownBy w' v.ownBlock ∧
      (v'.ownBlock = v.ownBlock ∨ v'.ownBlock = some w.heap.size) := by
  rcases A with _ | ad
  · have hm : m = 0 := by
      rcases Nat.eq_zero_or_pos m with h0 | h0
      · exact h0
      · obtain ⟨b, off, h, _⟩ := hr.2 h0
        cases h
    subst hm
    have hn : news = [] := List.eq_nil_of_length_eq_zero (by simpa using hr.1)
    subst hn
    exact ⟨v, w, run_append_of_nil w base t ty e i size ht hi v n xs hown c, by simpa using hown, World.grownBy.refl w _, .inl rfl⟩
  · have hcells : ∀ j u, news[j]? = some u → w.cell? (ad.add j) = some u := by
      intro j u hu
      rcases Nat.eq_zero_or_pos m with h0 | h0
      · subst h0
        have hn : news = [] := List.eq_nil_of_length_eq_zero (by simpa using hr.1)
        subst hn
        simp at hu
      · obtain ⟨b, off, h, _, hc⟩ := hr.2 h0
        injection h with h
        subst h
        rw [Addr.add_lit]
        exact hc j u hu
    obtain ⟨v', w', hrun, h2, h3, _, h5⟩ := run_append_own_at (P := P) w base t ty e i z size bytes ht hi hz hsize hby hzs hsz v n xs hown ad m c news hr.1 hcells h1 h63 hbytes hbase
    exact ⟨v', w', hrun, h2, h3, h5⟩

theorem wp_append_any {o : Oper} {a : Act} {K : Act → World → Prop} {Q : Exit → Act → World → Prop} (s x : Operand) (t : TypeId)
    (ho : o.op = .call { callee := .builtin .append, args := #[s, x], argTypes := #[t, t] })
    (base : Nat) (e : TypeId) (i : TypeInfo) (z : Value) (size bytes : Nat) (ht : P.underlying t = some (.slice e)) (hi : P.info? e = some i) (hz : i.zero = some z)
    (hsize : i.size = size) (hby : i.bytes = bytes) (hzs : z.cells.size = size) (hsz : 0 < size)
    (v : Value) (n : Nat) (xs : List Value) (hs : a.eval s = v) (hown : w.ownsRow base e size v n xs)
    (B : Nat) (A : Option Addr) (m c : Nat) (news : List Value) (hx : a.eval x = .slice A m c) (hr : Reads w B size A m news) (h1 : ∀ u ∈ news, u.oneCell' = true)
    (h63 : n + m ≤ maxLen) (hbytes : (n + m) * bytes ≤ 140737488355328) (hbase : base ≤ w.heap.size)
    (h : ∀ v' w', w'.ownsRow base e size v' (n + m) (xs ++ news) → w.grownBy w' v.ownBlock → (v'.ownBlock = v.ownBlock ∨ v'.ownBlock = some w.heap.size) → K (a.put o.dst v') w') : o.wp P a w K Q := by
  obtain ⟨v', w', hrun, h2, h3, h4⟩ := run_append_any (P := P) w base t o.type e i z size bytes ht hi hz hsize hby hzs hsz v n xs hown B A m c news hr h1 h63 hbytes hbase
  unfold Oper.wp execOp
  simp only [ho, resolve, invoke, builtin, Sem.run_bind, Sem.run_pure, Result.andThen_ok, List.map_toArray, List.map_cons, List.map_nil, hs, hx, hrun]
  exact h v' w' h2 h3 h4

theorem step_append_any {ops : Array Oper} {o : Oper} {a : Act} {K : Act → World → Prop} {Q : Exit → Act → World → Prop} {E : Prop} (hgd : o.guard = none) (s x : Operand) (t : TypeId)
    (ho : o.op = .call { callee := .builtin .append, args := #[s, x], argTypes := #[t, t] })
    (base : Nat) (e : TypeId) (i : TypeInfo) (z : Value) (size bytes : Nat) (ht : P.underlying t = some (.slice e)) (hi : P.info? e = some i) (hz : i.zero = some z)
    (hsize : i.size = size) (hby : i.bytes = bytes) (hzs : z.cells.size = size) (hsz : 0 < size)
    (v : Value) (n : Nat) (xs : List Value) (hs : a.eval s = v) (hown : w.ownsRow base e size v n xs)
    (B : Nat) (A : Option Addr) (m c : Nat) (news : List Value) (hx : a.eval x = .slice A m c) (hr : Reads w B size A m news) (h1 : ∀ u ∈ news, u.oneCell' = true)
    (h63 : n + m ≤ maxLen) (hbytes : (n + m) * bytes ≤ 140737488355328) (hbase : base ≤ w.heap.size)
    (h : ∀ v' w', w'.ownsRow base e size v' (n + m) (xs ++ news) → w.grownBy w' v.ownBlock → (v'.ownBlock = v.ownBlock ∨ v'.ownBlock = some w.heap.size) → K (a.put o.dst v') w') :
    if Region.wanted o (yielded ops a.tmps) = true then Oper.wp P o a w K Q else E := by
  have hw : Region.wanted o (yielded ops a.tmps) = true := by simp [Region.wanted, hgd]
  rw [if_pos hw]
  exact wp_append_any w s x t ho base e i z size bytes ht hi hz hsize hby hzs hsz v n xs hs hown B A m c news hx hr h1 h63 hbytes hbase h
end
end Go.Proofs.YthakcefgbggkcaaDoor

namespace Go.Proofs.YthakcefgbggkcaaDoor
open Go.RowKit

/-- What a span's functions read of its values and marks. -/
structure RV (w : World) (a : SP) (V : List Vl) : Prop where
  rd : Rd w a
  kV : Blk w a.bb 45 (vls V).toArray
  lV : V.length = a.N
  nV : ∀ i, Nrm (gv V i)
theorem RV.below {w w' : World} {a : SP} {V : List Vl} (h : RV w a V) (hb : Below w.heap.size w w') (hg : 0 < a.base) : RV w' a V :=
  ⟨h.rd.below hb hg, h.kV.below hb h.kV.lt, h.lV, h.nV⟩
theorem ST.rv {w : World} {a : SP} {F : Nat → Prop} {V : List Vl} {B : List Bool} {m : Nat} (h : ST w a F V B m) : RV w a V := by
  obtain ⟨H, Q, nx, ck, h1, h2, _⟩ := h
  exact ⟨h1.rd, h1.kV.1, h1.lV, h2.nV⟩
/-- The values of all items. -/
def SP.W (a : SP) (V : List Vl) (x : It) : Vl := spv a.C a.s a.t (gv V) x

set_option maxRecDepth 100000 in
set_option maxHeartbeats 2000000 in
theorem value_any (w : World) (a : SP) (V : List Vl) (x : It) (hR : RV w a V) (ok : a.Ok) (hx : 0 ≤ x.h ∧ x.h < a.N) :
    Calls Tryd.prog 59 #[.pointer (some ⟨a.sp, 0, none⟩), .int .i64 x.h, .int .i64 x.f, .int .i64 x.t] w fun e w' => e = .returned (.agg #[.int .i64 (a.W V x).c, .int .i64 (a.W V x).s]) ∧ Below w.heap.size w w' := by
  obtain ⟨xh, xf, xt⟩ := x
  simp only at hx ⊢
  obtain ⟨h0, h1⟩ := hx
  obtain ⟨j, rfl⟩ := Int.eq_ofNat_of_zero_le h0
  have hjN : j < a.N := by omega
  have hba : Below w.heap.size w (w.alloc (.cells #[.int .i64 0, .int .i64 0] 45)) := (Below.refl _ _).alloc (Nat.le_refl _) _
  have hRA := hR.below hba ok.g
  have K0 : Blk (w.alloc (.cells #[.int .i64 0, .int .i64 0] 45)) w.heap.size 45 #[.int .i64 0, .int .i64 0] := Blk.new' w _ _ rfl
  have c10 := hRA.rd.kS.cell 10
  have c11 := hRA.rd.kS.cell 11
  have c12 := hRA.rd.kS.cell 12
  have c7 := hRA.rd.kS.cell 7
  have c8 := hRA.rd.kS.cell 8
  have c9 := hRA.rd.kS.cell 9
  simp [SP.cells] at c7 c8 c9 c10 c11 c12
  obtain ⟨v, hv⟩ : ∃ v, V[j]? = some v := ⟨_, List.getElem?_eq_getElem (by rw [hR.lV]; exact hjN)⟩
  obtain ⟨v0, v1⟩ := hRA.kV.vl_at hv
  have k0 := K0.cell 0
  have k1 := K0.cell 1
  have z0 := K0.frozen 0
  have z1 := K0.frozen 1
  simp at k0 k1
  have HRA := Lib.hid hRA
  have HOK := Lib.hid ok
  have HBA := Lib.hid hba
  have HK0 := Lib.hid K0
  have hW : a.W V ⟨j, xf, xt⟩ = if xf = a.s ∧ xt = a.t then v else (atC a.N a.S a.cs ⟨j, xf, xt⟩).v := by
    unfold SP.W spv
    by_cases h : xf = a.s ∧ xt = a.t
    · rw [if_pos (own_iff.2 h), if_pos h]
      simp [gv_at hv]
    · rw [if_neg (fun e => h (own_iff.1 e)), if_neg h]
      rfl
  obtain ⟨y, hy⟩ : ∃ y, atC a.N a.S a.cs ⟨j, xf, xt⟩ = y := ⟨_, rfl⟩
  rw [hy] at hW
  have HW := Lib.hid hW
  have HAT : Hid (∀ w, Rd w a → Calls Tryd.prog 28 #[.agg #[.int .i64 a.N, .int .i64 a.S, .slice a.CA a.cs.length a.cc], .agg #[.int .i64 (j : Nat), .int .i64 xf, .int .i64 xt]] w fun e w' => e = .returned (.agg #[.int .i64 y.v.c, .int .i64 y.v.s, .int .i64 y.r, .int .i64 y.a]) ∧ Below w.heap.size w w') := fun w hr => by
    have := at_any a.N a.S a.cs.length a.cc a.base a.CA a.cs ⟨j, xf, xt⟩ w hr.rC hr.bs (by have := ok.N1; omega) (by have := ok.S1; omega) (by have := ok.nC; omega) hr.g
    rw [hy] at this
    exact this
  clear hy
  have hN1 := ok.N1
  have hS1 := ok.S1
  have hnC := ok.nC
  obtain ⟨ss, hss⟩ : ∃ ss, a.s = ss := ⟨_, rfl⟩
  obtain ⟨tt, htt⟩ : ∃ tt, a.t = tt := ⟨_, rfl⟩
  rw [hss] at c10 HW
  rw [htt] at c11 HW
  clear hRA hba K0 hW hv ok hss htt hR
  have hfd : ∀ (c s r x : Int) (w : World), (Instr.field 47 (.agg #[.int .i64 c, .int .i64 s, .int .i64 r, .int .i64 x]) 0).run Tryd.prog w = .ok (.agg #[.int .i64 c, .int .i64 s]) w := fun _ _ _ _ _ => by kernel_rfl
  obtain ⟨d1, d2, hvv⟩ | ⟨d1, hvv⟩ | ⟨d1, d2, hvv⟩ : ((xf == (ss : Int)) = true ∧ (xt == (tt : Int)) = true ∧ Hid (a.W V ⟨j, xf, xt⟩ = v)) ∨ ((xf == (ss : Int)) = false ∧ Hid (a.W V ⟨j, xf, xt⟩ = y.v)) ∨ ((xf == (ss : Int)) = true ∧ (xt == (tt : Int)) = false ∧ Hid (a.W V ⟨j, xf, xt⟩ = y.v)) := by
    by_cases e1 : xf = ss
    · by_cases e2 : xt = tt
      · exact .inl ⟨by simpa using e1, by simpa using e2, by rw [HW.out, if_pos ⟨e1, e2⟩]; exact Lib.hid rfl⟩
      · exact .inr (.inr ⟨by simpa using e1, by simpa using e2, by rw [HW.out, if_neg (fun h => e2 h.2)]; exact Lib.hid rfl⟩)
    · exact .inr (.inl ⟨by simpa using e1, by rw [HW.out, if_neg (fun h => e1 h.1)]; exact Lib.hid rfl⟩)
  case inl =>
    go_enter Tryd.func59, Tryd.ntmps59
    go_wp2_with fail
    have r1 := Blk.new' w 45 #[.int .i64 v.c, .int .i64 v.s] rfl
    refine bodyPost_ret (results_val rfl rfl (r1.cell 0) (r1.cell 1)) rfl ⟨by rw [hvv.out], ?_⟩
    exact (Below.refl _ _).alloc (Nat.le_refl _) _
  all_goals
    go_enter Tryd.func59, Tryd.ntmps59
    go_wp2_with (go_at_call 28; with_reducible refine (HAT.out _ HRA.out.rd).mono ?_; rintro e w1 ⟨rfl, hb1⟩; have k0' := (HK0.out.below hb1 HK0.out.lt).cell 0; have k1' := (HK0.out.below hb1 HK0.out.lt).cell 1; have z0' := (HK0.out.below hb1 HK0.out.lt).frozen 0; have z1' := (HK0.out.below hb1 HK0.out.lt).frozen 1; simp at k0' k1'; have HKK := Lib.hid (HK0.out.below hb1 HK0.out.lt); have HB1 := Lib.hid hb1; clear hb1)
    have r1 := HKK.out.set2 (.int .i64 y.v.c) (.int .i64 y.v.s)
    refine bodyPost_ret (results_val rfl rfl (r1.cell 0) (r1.cell 1)) rfl ⟨by rw [hvv.out], ?_⟩
    exact ((HBA.out.trans (HB1.out.mono HBA.out.size)).setCell (p := ⟨w.heap.size, 0, none⟩) (Nat.le_refl _) _).setCell (p := ⟨w.heap.size, 1, none⟩) (Nat.le_refl _) _
end Go.Proofs.YthakcefgbggkcaaDoor

namespace Go.Proofs.YthakcefgbggkcaaDoor
open Go.RowKit

theorem any_take {α : Type} {p : α → Bool} {l : List α} {i : Nat} {x : α} (h : l[i]? = some x) : (l.take (i + 1)).any p = ((l.take i).any p || p x) := by
  rw [List.take_add_one, h]
  simp
def SP.own (a : SP) (x : It) : Bool := x.own a.s a.t
theorem own_cases (s t : Nat) (x : It) : ((x.f == (s : Int)) = true ∧ (x.t == (t : Int)) = true ∧ Hid (x.own s t = true)) ∨ ((x.f == (s : Int)) = false ∧ Hid (x.own s t = false)) ∨ ((x.f == (s : Int)) = true ∧ (x.t == (t : Int)) = false ∧ Hid (x.own s t = false)) := by
  by_cases e1 : x.f = s
  · by_cases e2 : x.t = t
    · exact .inl ⟨by simpa using e1, by simpa using e2, Lib.hid (own_iff.2 ⟨e1, e2⟩)⟩
    · exact .inr (.inr ⟨by simpa using e1, by simpa using e2, Lib.hid (by simp [It.own, e2])⟩)
  · exact .inr (.inl ⟨by simpa using e1, Lib.hid (by simp [It.own, e1])⟩)

set_option maxRecDepth 100000 in
set_option maxHeartbeats 2000000 in
theorem within_any (w : World) (a : SP) (A : Option Addr) (n c B : Nat) (us : List It) (hR : Rd w a) (ok : a.Ok) (hU : Reads w B 3 A n (its us)) (hB : B ≤ w.heap.size) (hn : n ≤ 1000) :
    Calls Tryd.prog 47 #[.pointer (some ⟨a.sp, 0, none⟩), .slice A n c] w fun e w' => e = .returned (.bool (us.any a.own)) ∧ Below w.heap.size w w' := by
  have HR := Lib.hid hR
  have HOK := Lib.hid ok
  have HU := Lib.hid (hU.more hB)
  have hln := hU.len_its
  obtain ⟨r, hr⟩ : ∃ r, us.any a.own = r := ⟨_, rfl⟩
  rw [hr]
  have HRR := Lib.hid hr
  obtain ⟨ss, hss⟩ : ∃ ss, a.s = ss := ⟨_, rfl⟩
  obtain ⟨tt, htt⟩ : ∃ tt, a.t = tt := ⟨_, rfl⟩
  have HST := Lib.hid (And.intro hss htt)
  have HLN := Lib.hid hln
  clear hR ok hU hr hss htt hln
  go_enter Tryd.func47, Tryd.ntmps47
  go_wp2_with fail
  go_loopw [9] (fun x wr => ∃ i : Nat, i ≤ n ∧ x = .int .i64 i ∧ Hid ((us.take i).any a.own = false) ∧ Below w.heap.size w wr) (fun x _ => n - (intOf x).toNat)
  case atStart => exact ⟨0, Nat.zero_le _, rfl, Lib.hid (by simp), Below.refl _ _⟩
  case round =>
    obtain ⟨i, hi, rfl, HA, hb⟩ := hrel
    by_cases hlt : i < n
    case neg =>
      have hltD : decide (i < n) = false := by simp [hlt]
      obtain rfl : i = n := by omega
      have HE : Hid (r = false) := by
        have := HA.out
        rw [List.take_of_length_le (by have := HLN.out; omega), HRR.out] at this
        exact this
      clear HA
      go_wp2_with fail
      go_ret
      exact ⟨ret_bool HE.out.symm, hb⟩
    case pos =>
      have hltD : decide (i < n) = true := by simp [hlt]
      obtain ⟨b, off, y, hA, hbB, hy, p0, p1, p2⟩ := (HU.out.below hb).it_at hlt
      have hsz := hb.size
      obtain ⟨yh, yf, yt⟩ := y
      simp only at p0 p1 p2
      have hR1 := HR.out.below hb HOK.out.g
      have c10 := (hR1.below (w' := wr.alloc (.cells #[.int .i64 yh, .int .i64 yf, .int .i64 yt] 61)) ((Below.refl _ _).alloc (Nat.le_refl _) _) HOK.out.g).kS.cell 10
      have c11 := (hR1.below (w' := wr.alloc (.cells #[.int .i64 yh, .int .i64 yf, .int .i64 yt] 61)) ((Below.refl _ _).alloc (Nat.le_refl _) _) HOK.out.g).kS.cell 11
      simp [SP.cells] at c10 c11
      rw [HST.out.1] at c10
      rw [HST.out.2] at c11
      have hnx := any_take (p := a.own) hy
      have key := own_cases ss tt ⟨yh, yf, yt⟩
      have HNX := Lib.hid hnx
      have HY := Lib.hid hy
      have hb2 : Below w.heap.size w (wr.alloc (.cells #[.int .i64 yh, .int .i64 yf, .int .i64 yt] 61)) := hb.alloc hsz _
      have HB2 := Lib.hid hb2
      subst hA
      clear hR1 hnx hy hb hb2
      simp only at key
      rcases key with ⟨d1, d2, ho⟩ | ⟨d1, ho⟩ | ⟨d1, d2, ho⟩
      · have HE : Hid (r = true) := by
          rw [← HRR.out]
          refine Lib.hid (List.any_eq_true.2 ⟨⟨yh, yf, yt⟩, List.mem_of_getElem? HY.out, ?_⟩)
          unfold SP.own
          rw [HST.out.1, HST.out.2]
          exact ho.out
        go_upto_region 4 with fail
        go_quiet (fail)
        go_wp2_with fail
        go_ret
        exact ⟨ret_bool HE.out.symm, below_drewN HB2.out _⟩
      all_goals
        have HE : Hid ((us.take (i + 1)).any a.own = false) := by
          rw [HNX.out, HA.out]
          unfold SP.own
          rw [HST.out.1, HST.out.2, ho.out]
          exact Lib.hid rfl
        clear HA
        go_upto_region 4 with fail
        go_quiet (fail)
        go_wp2_with fail
        go_roundw
        case rel => exact ⟨i + 1, by omega, by go_num, HE, below_drewN HB2.out _⟩
        case measure => simp [intOf]; omega
/-- What is final, in memory. -/
def RB (w : World) (a : SP) (B : List Bool) : Prop := Blk w a.fb 4 (bools B).toArray ∧ B.length = a.N
theorem RB.below {w w' : World} {a : SP} {B : List Bool} (h : RB w a B) (hb : Below w.heap.size w w') : RB w' a B := ⟨h.1.below hb h.1.lt, h.2⟩
theorem RB.at_ {w : World} {a : SP} {B : List Bool} (h : RB w a B) {k : Nat} {x : Bool} (hk : B[k]? = some x) : w.cell? ⟨a.fb, k, none⟩ = some (.bool x) := by
  rw [h.1.cell]
  simp [bools, hk]
theorem ST.rb {w : World} {a : SP} {F : Nat → Prop} {V : List Vl} {B : List Bool} {m : Nat} (h : ST w a F V B m) : RB w a B := by
  obtain ⟨H, Q, nx, ck, h1, h2, _⟩ := h
  exact ⟨h1.kB.1, h1.lB⟩
/-- An item of the span that is not final. -/
def SP.bad (a : SP) (B : List Bool) (x : It) : Bool := a.own x && !(B[x.h.toNat]?.getD false)

set_option maxRecDepth 100000 in
set_option maxHeartbeats 2000000 in
theorem ready_any (w : World) (a : SP) (A : Option Addr) (n c B : Nat) (us : List It) (V : List Bool) (hV : RB w a V) (hh : ∀ x ∈ us, 0 ≤ x.h ∧ x.h < a.N) (hR : Rd w a) (ok : a.Ok) (hU : Reads w B 3 A n (its us)) (hB : B ≤ w.heap.size) (hn : n ≤ 1000) :
    Calls Tryd.prog 64 #[.pointer (some ⟨a.sp, 0, none⟩), .slice A n c] w fun e w' => e = .returned (.bool (!us.any (a.bad V))) ∧ Below w.heap.size w w' := by
  have HR := Lib.hid hR
  have HOK := Lib.hid ok
  have HU := Lib.hid (hU.more hB)
  have hln := hU.len_its
  obtain ⟨r, hr⟩ : ∃ r, us.any (a.bad V) = r := ⟨_, rfl⟩
  rw [hr]
  have HV := Lib.hid hV
  have HH := Lib.hid hh
  clear hV hh
  have HRR := Lib.hid hr
  obtain ⟨ss, hss⟩ : ∃ ss, a.s = ss := ⟨_, rfl⟩
  obtain ⟨tt, htt⟩ : ∃ tt, a.t = tt := ⟨_, rfl⟩
  have HST := Lib.hid (And.intro hss htt)
  have HLN := Lib.hid hln
  clear hR ok hU hr hss htt hln
  go_enter Tryd.func64, Tryd.ntmps64
  go_wp2_with fail
  go_loopw [9] (fun x wr => ∃ i : Nat, i ≤ n ∧ x = .int .i64 i ∧ Hid ((us.take i).any (a.bad V) = false) ∧ Below w.heap.size w wr) (fun x _ => n - (intOf x).toNat)
  case atStart => exact ⟨0, Nat.zero_le _, rfl, Lib.hid (by simp), Below.refl _ _⟩
  case round =>
    obtain ⟨i, hi, rfl, HA, hb⟩ := hrel
    by_cases hlt : i < n
    case neg =>
      have hltD : decide (i < n) = false := by simp [hlt]
      obtain rfl : i = n := by omega
      have HE : Hid (r = false) := by
        have := HA.out
        rw [List.take_of_length_le (by have := HLN.out; omega), HRR.out] at this
        exact this
      clear HA
      go_wp2_with fail
      go_ret
      exact ⟨ret_bool (by rw [HE.out]; rfl), hb⟩
    case pos =>
      have hltD : decide (i < n) = true := by simp [hlt]
      obtain ⟨b, off, y, hA, hbB, hy, p0, p1, p2⟩ := (HU.out.below hb).it_at hlt
      have hsz := hb.size
      obtain ⟨yh, yf, yt⟩ := y
      simp only at p0 p1 p2
      have hR1 := HR.out.below hb HOK.out.g
      have c10 := (hR1.below (w' := wr.alloc (.cells #[.int .i64 yh, .int .i64 yf, .int .i64 yt] 61)) ((Below.refl _ _).alloc (Nat.le_refl _) _) HOK.out.g).kS.cell 10
      have c11 := (hR1.below (w' := wr.alloc (.cells #[.int .i64 yh, .int .i64 yf, .int .i64 yt] 61)) ((Below.refl _ _).alloc (Nat.le_refl _) _) HOK.out.g).kS.cell 11
      simp [SP.cells] at c10 c11
      rw [HST.out.1] at c10
      rw [HST.out.2] at c11
      have hnx := any_take (p := a.bad V) hy
      have c13 := (hR1.below (w' := wr.alloc (.cells #[.int .i64 yh, .int .i64 yf, .int .i64 yt] 61)) ((Below.refl _ _).alloc (Nat.le_refl _) _) HOK.out.g).kS.cell 13
      simp [SP.cells] at c13
      obtain ⟨hj0, hj1⟩ := HH.out _ (List.mem_of_getElem? hy)
      simp only at hj0 hj1
      obtain ⟨j, rfl⟩ := Int.eq_ofNat_of_zero_le hj0
      have hjN : j < a.N := by omega
      obtain ⟨bj, hbj⟩ : ∃ bj, V[j]? = some bj := ⟨_, List.getElem?_eq_getElem (by rw [HV.out.2]; exact hjN)⟩
      have v0 := ((HV.out.below hb).below (w' := wr.alloc (.cells #[.int .i64 (j : Nat), .int .i64 yf, .int .i64 yt] 61)) ((Below.refl _ _).alloc (Nat.le_refl _) _)).at_ hbj
      have HBJ := Lib.hid hbj
      have key := own_cases ss tt ⟨j, yf, yt⟩
      have HNX := Lib.hid hnx
      have HY := Lib.hid hy
      have hb2 : Below w.heap.size w (wr.alloc (.cells #[.int .i64 (j : Nat), .int .i64 yf, .int .i64 yt] 61)) := hb.alloc hsz _
      have HB2 := Lib.hid hb2
      subst hA
      clear hR1 hnx hy hb hb2
      clear hbj hj0 hj1
      simp only at key
      have hbd : ∀ o : Bool, (⟨j, yf, yt⟩ : It).own ss tt = o → a.bad V ⟨j, yf, yt⟩ = (o && !bj) := fun o ho => by
        unfold SP.bad SP.own
        rw [HST.out.1, HST.out.2, ho]
        simp [HBJ.out]
      have HBD := Lib.hid hbd
      clear hbd
      rcases key with ⟨d1, d2, ho⟩ | ⟨d1, ho⟩ | ⟨d1, d2, ho⟩
      · cases bj with
        | false =>
          have HE : Hid (r = true) := by
            rw [← HRR.out]
            exact Lib.hid (List.any_eq_true.2 ⟨⟨j, yf, yt⟩, List.mem_of_getElem? HY.out, by rw [HBD.out _ ho.out]; rfl⟩)
          go_upto_region 4 with fail
          go_quiet (fail)
          go_wp2_with fail
          go_ret
          exact ⟨ret_bool (by rw [HE.out]; rfl), below_drewN HB2.out _⟩
        | true =>
          have HE : Hid ((us.take (i + 1)).any (a.bad V) = false) := by
            rw [HNX.out, HA.out, HBD.out _ ho.out]
            exact Lib.hid rfl
          clear HA
          go_upto_region 4 with fail
          go_quiet (fail)
          go_wp2_with fail
          go_roundw
          case rel => exact ⟨i + 1, by omega, by go_num, HE, below_drewN HB2.out _⟩
          case measure => simp [intOf]; omega
      all_goals
        have HE : Hid ((us.take (i + 1)).any (a.bad V) = false) := by
          rw [HNX.out, HA.out, HBD.out _ ho.out]
          exact Lib.hid rfl
        clear HA
        go_upto_region 4 with fail
        go_quiet (fail)
        go_wp2_with fail
        go_roundw
        case rel => exact ⟨i + 1, by omega, by go_num, HE, below_drewN HB2.out _⟩
        case measure => simp [intOf]; omega
end Go.Proofs.YthakcefgbggkcaaDoor

namespace Go.Proofs.YthakcefgbggkcaaDoor
open Go.RowKit

theorem infoVl3 : (Tryd.prog.info? 45).map (fun i => (i.zero, i.size, i.bytes)) = some (some (.agg #[.int .i64 0, .int .i64 0]), 2, 16) := infoVl
theorem vls_push {w wr w1 : World} {base : Nat} {v : Value} {acc : List Vl} {t : Vl} {v' : Value} (hb : Below base w wr) (hbase : base ≤ w.heap.size)
    (h : w1.ownsRow base 45 2 v' (acc.length + 1) (vls acc ++ t.cells)) (hg : wr.grownBy w1 v.ownBlock) (hown : wr.ownsRow base 45 2 v acc.length (vls acc)) :
    w1.ownsRow base 45 2 v' (acc ++ [t]).length (vls (acc ++ [t])) ∧ Below base w w1 := by
  refine ⟨?_, hb.grown hg (by have := hb.size; omega) (fun k hk => (hown.lt k hk).1)⟩
  rw [vls_append, List.length_append]
  simpa [vls] using h
theorem map_snoc {α β : Type} {f : α → β} {l : List α} {i : Nat} {x : α} (h : l[i]? = some x) : (l.take (i + 1)).map f = (l.take i).map f ++ [f x] := by
  rw [List.take_add_one, h]
  simp
set_option maxRecDepth 100000 in
set_option maxHeartbeats 2000000 in
theorem scomb_any (w : World) (a : SP) (V : List Vl) (p : Int) (A : Option Addr) (c B : Nat) (us : List It) (arg : Int) (hR : RV w a V) (ok : a.Ok) (hU : Reads w B 3 A us.length (its us)) (hB : B ≤ w.heap.size) (hn : us.length ≤ 1000) (hp : 0 ≤ p) (hh : ∀ x ∈ us, 0 ≤ x.h ∧ x.h < a.N) :
    Calls Tryd.prog 49 #[.pointer (some ⟨a.sp, 0, none⟩), .int .i64 p, .slice A us.length c] w fun e w' => e = .returned (.agg #[.int .i64 (iv (a.W V) ⟨arg, p, us⟩).c, .int .i64 (iv (a.W V) ⟨arg, p, us⟩).s]) ∧ Below w.heap.size w w' := by
  obtain ⟨i0, hi0, hz0, hz1, hz2⟩ := info_parts infoVl3
  have hW : ∀ x, Nrm (a.W V x) := spv_nrm ok.C hR.nV
  have HWN := Lib.hid hW
  have HR := Lib.hid hR
  have HOK := Lib.hid ok
  have HU := Lib.hid (hU.more hB)
  have HH := Lib.hid hh
  obtain ⟨n, hnn⟩ : ∃ n, us.length = n := ⟨_, rfl⟩
  have hiv : iv (a.W V) ⟨arg, p, us⟩ = comb p (us.map (a.W V)) := rfl
  rw [hiv]
  rw [hnn] at HU hn ⊢
  have HNN := Lib.hid hnn
  clear hW hR ok hU hh hnn hiv
  go_enter Tryd.func49, Tryd.ntmps49
  go_wp2_with fail
  have hb0 : Below w.heap.size w (w.alloc (.cells #[.int .i64 0, .int .i64 0] 45)) := (Below.refl _ _).alloc (Nat.le_refl _) _
  go_loopw [7, 12] (fun v x wr => ∃ i : Nat, i ≤ n ∧ x = .int .i64 i ∧ Hid (wr.ownsRow (w.heap.size + 1) 45 2 v ((us.take i).map (a.W V)).length (vls ((us.take i).map (a.W V)))) ∧
      Hid (Blk wr w.heap.size 45 #[.int .i64 0, .int .i64 0]) ∧ Hid (Below (w.heap.size + 1) (w.alloc (.cells #[.int .i64 0, .int .i64 0] 45)) wr)) (fun _ x _ => n - (intOf x).toNat)
  case atStart => exact ⟨0, Nat.zero_le _, rfl, by simp [vls]; exact World.ownsRow_nil _ _ _ _, Blk.new' _ _ _ rfl, Below.refl _ _⟩
  case round =>
    obtain ⟨i, hi, rfl, HO, HK, HB⟩ := hrel
    have hsz := HB.out.size
    simp only [World.size_alloc] at hsz
    have HBW : Hid (Below w.heap.size w wr) := hb0.trans (HB.out.mono (by omega))
    by_cases hlt : i < n
    case pos =>
      have hltD : decide (i < n) = true := by simp [hlt]
      obtain ⟨b, off, y, hA, hbB, hy, p0, p1, p2⟩ := (HU.out.below HBW.out).it_at hlt
      have hyh := HH.out y (List.mem_of_getElem? hy)
      have hsn := map_snoc (f := a.W V) hy
      obtain ⟨v, hv⟩ : ∃ v, a.W V y = v := ⟨_, rfl⟩
      rw [hv] at hsn
      have hlen : ((us.take i).map (a.W V)).length ≤ i := by simp; omega
      obtain ⟨acc, hacc⟩ : ∃ acc, (us.take i).map (a.W V) = acc := ⟨_, rfl⟩
      rw [hacc] at HO hsn hlen
      have HSN := Lib.hid hsn
      have hxa : Below wr.heap.size wr (wr.alloc (.cells #[.int .i64 y.h, .int .i64 y.f, .int .i64 y.t] 61)) := (Below.refl _ _).alloc (Nat.le_refl _) _
      have hval := value_any (wr.alloc (.cells #[.int .i64 y.h, .int .i64 y.f, .int .i64 y.t] 61)) a V y ((HR.out.below HBW.out HOK.out.g).below hxa HOK.out.g) HOK.out hyh
      rw [hv] at hval
      have HVAL := Lib.hid hval
      have HXA := Lib.hid hxa
      subst hA
      clear hsn hacc hyh hv hval hxa hy
      go_wp2_with fail
      refine HVAL.out.mono ?_
      rintro e w1 ⟨rfl, hb1⟩
      have hbx : Below wr.heap.size wr w1 := HXA.out.trans (hb1.mono HXA.out.size)
      have HBX := Lib.hid hbx
      have HO1 := Lib.hid (own_below HO.out hbx)
      have HK1 := Lib.hid (HK.out.below hbx HK.out.lt)
      have HB1 := Lib.hid (HB.out.trans (hbx.mono (by omega)))
      have hs1 := hbx.size
      clear hb1 hbx HO HK HB HVAL HXA p0 p1 p2
      go_wp2_with (at_builtin; go_must (refine wpList_append_own _ rfl _ _ 40 rfl (w.heap.size + 1) 45 i0 (.agg #[.int .i64 0, .int .i64 0]) 2 16 Tryd.underlying40 hi0 hz0 hz1 hz2 rfl (by decide) _ acc.length (vls acc) rfl ?hown ⟨w1.heap.size, 0, none⟩ 1 1 v.cells rfl rfl ?c1 ?c2 ?c3 ?c4 ?c5 ?_))
      case hown => exact HO1.out.alloc _
      case c1 =>
        intro j u hj
        rw [Addr.add_lit, (Blk.new' _ _ _ (by simp)).cell]
        simpa [Vl.cells] using hj
      case c2 =>
        intro u hu
        simp [Vl.cells] at hu
        rcases hu with rfl | rfl <;> rfl
      case c3 => unfold maxLen; omega
      case c4 => omega
      case c5 => simp; omega
      · intro v' w2 hown' hgrow _
        have hlt0 := HO1.out.lt
        have B2 : Blk w2 w.heap.size 45 #[.int .i64 0, .int .i64 0] := (HK1.out.alloc _).grown hgrow (fun e => by have := hlt0 _ e.symm; omega)
        have R := vls_push (t := v) (HB1.out.alloc (by omega) _) (by simp) hown' hgrow (HO1.out.alloc _)
        have HR1 := Lib.hid R
        clear hown' hgrow HO1 R hlt0
        go_wp2_with fail
        go_roundw
        case rel => exact ⟨i + 1, by omega, by go_num, by rw [HSN.out]; exact HR1.out.1, B2, HR1.out.2⟩
        case measure => simp [intOf]; omega
    case neg =>
      have hltD : decide (i < n) = false := by simp [hlt]
      obtain rfl : i = n := by omega
      have hte : us.take i = us := by rw [← HNN.out]; exact List.take_length
      rw [hte] at HO
      have hown := HO.out
      have hml : (us.map (a.W V)).length = i := by rw [List.length_map]; exact HNN.out
      rw [hml] at hown
      obtain ⟨A', c', rfl, _, _⟩ := own_form hown
      have HRD := Lib.hid (Reads.of_own hown)
      have hord : ∀ v ∈ us.map (a.W V), Ordy v := fun v hv => by
        obtain ⟨x, _, rfl⟩ := List.mem_map.1 hv
        exact (HWN.out x).1
      have HORD := Lib.hid hord
      clear hte hown hml hord
      go_wp2_with fail
      refine (combine_any p A' i c' wr.heap.size (us.map (a.W V)) wr HRD.out (Nat.le_refl _) hp HORD.out (by omega)).mono ?_
      rintro e w1 ⟨rfl, hb1⟩
      have HK1 := Lib.hid (HK.out.below hb1 HK.out.lt)
      have HB1 := Lib.hid (HBW.out.trans (hb1.mono HBW.out.size))
      have k0 := HK1.out.cell 0
      have k1 := HK1.out.cell 1
      have z0 := HK1.out.frozen 0
      have z1 := HK1.out.frozen 1
      simp at k0 k1
      clear hb1
      go_wp2_with fail
      have r1 := HK1.out.set2 (.int .i64 (comb p (us.map (a.W V))).c) (.int .i64 (comb p (us.map (a.W V))).s)
      refine bodyPost_ret (results_val rfl rfl (r1.cell 0) (r1.cell 1)) rfl ⟨rfl, ?_⟩
      exact (HB1.out.setCell (p := ⟨w.heap.size, 0, none⟩) (Nat.le_refl _) _).setCell (p := ⟨w.heap.size, 1, none⟩) (Nat.le_refl _) _
end Go.Proofs.YthakcefgbggkcaaDoor

namespace Go.Proofs.YthakcefgbggkcaaDoor
open Go.RowKit

section
variable {N : Nat} {V : List Vl} {B : List Bool} {H : List Int} {Q L1 : List Ent} {j nx ck : Nat} {v : Vl} {e : Ent}
theorem gv_set {V : List Vl} {n i : Nat} {v : Vl} (hn : n < V.length) : gv (V.set n v) i = if i = n then v else gv V i := by
  unfold gv
  rw [List.getElem?_set]
  by_cases h : n = i
  · subst h; rw [if_pos rfl, if_pos rfl, if_pos hn]; rfl
  · rw [if_neg h, if_neg (fun e => h e.symm)]
theorem QI.node (h : QI N V B H Q) (he : e ∈ Q) (hn : e.node = (j : Nat)) : H[j]? = some (e.h : Int) ∧ B[j]? = some false := by
  obtain ⟨i, _, h2, h3, h4, _⟩ := h.ent e he
  have : i = j := by omega
  subst this
  exact ⟨h4, h3⟩
theorem QI.upd (h : QI N V B H Q) (hnd : (Q.map Ent.h).Nodup) (hp : Q.Perm (e :: L1)) (hen : e.node = (j : Nat)) (hj : j < N) (hV : V.length = N) (hB : B[j]? = some false) (hH : H[j]? = some (e.h : Int)) (hv : Nrm v) (hvf : v.c < 1099511627776) :
    QI N (V.set j v) B H (⟨j, v.c, v.s, e.h, ck⟩ :: L1) := by
  have hjV : j < V.length := by omega
  have hnd2 := (hp.map Ent.h).nodup_iff.1 hnd
  rw [List.map_cons, List.nodup_cons] at hnd2
  refine ⟨fun i => ?_, fun x hx => ?_, fun i hi h1 => ?_, fun i y hi h1 h2 => ?_, fun i hi => ?_⟩
  · rw [gv_set hjV]
    split
    · exact hv
    · exact h.nV i
  · rcases List.mem_cons.1 hx with rfl | hx
    · exact ⟨j, hj, rfl, hB, hH, by rw [List.getElem?_set, if_pos rfl, if_pos hjV], hvf⟩
    · obtain ⟨i, h1, h2, h3, h4, h5, h6⟩ := h.ent x (hp.mem_iff.2 (by simp [hx]))
      refine ⟨i, h1, h2, h3, h4, ?_, h6⟩
      rw [List.getElem?_set, if_neg]
      · exact h5
      · intro e1
        subst e1
        rw [hH] at h4
        injection h4 with h4
        refine hnd2.1 (List.mem_map.2 ⟨x, hx, ?_⟩)
        omega
  · have hne : i ≠ j := fun e1 => by
      subst e1
      rw [hH] at h1
      injection h1 with h1
      omega
    rw [gv_set hjV, if_neg hne]
    exact h.neg i hi h1
  · obtain ⟨h3, h4⟩ := h.pos i y hi h1 h2
    refine ⟨h3, ?_⟩
    rcases h4 with h4 | ⟨x, hx, hxn⟩
    · exact .inl h4
    · right
      rcases List.mem_cons.1 (hp.mem_iff.1 hx) with rfl | hx'
      · refine ⟨⟨j, v.c, v.s, x.h, ck⟩, by simp, ?_⟩
        show ((j : Nat) : Int) = _
        rw [← hxn, hen]
      · exact ⟨x, by simp [hx'], hxn⟩
  · rw [gv_set hjV]
    split
    · exact hvf
    · exact h.fin i hi
theorem QI.push (h : QI N V B H Q) (hj : j < N) (hV : V.length = N) (hHl : H.length = N) (hB : B[j]? = some false) (hH : H[j]? = some (-1)) (hv : Nrm v) (hvf : v.c < 1099511627776) :
    QI N (V.set j v) B (H.set j (nx : Nat)) (Q ++ [⟨j, v.c, v.s, nx, ck⟩]) := by
  have hjV : j < V.length := by omega
  have hjH : j < H.length := by omega
  have hne : ∀ x ∈ Q, ∀ i : Nat, H[i]? = some (x.h : Int) → j ≠ i := fun x _ i h4 e1 => by
    subst e1
    rw [hH] at h4
    injection h4 with h4
    omega
  refine ⟨fun i => ?_, fun x hx => ?_, fun i hi h1 => ?_, fun i y hi h1 h2 => ?_, fun i hi => ?_⟩
  · rw [gv_set hjV]
    split
    · exact hv
    · exact h.nV i
  · rcases List.mem_append.1 hx with hx | hx
    · obtain ⟨i, h1, h2, h3, h4, h5, h6⟩ := h.ent x hx
      have hji := hne x hx i h4
      exact ⟨i, h1, h2, h3, by rw [List.getElem?_set, if_neg hji]; exact h4, by rw [List.getElem?_set, if_neg hji]; exact h5, h6⟩
    · simp at hx
      subst hx
      exact ⟨j, hj, rfl, hB, by rw [List.getElem?_set, if_pos rfl, if_pos hjH], by rw [List.getElem?_set, if_pos rfl, if_pos hjV], hvf⟩
  · rw [List.getElem?_set] at h1
    by_cases e1 : j = i
    · rw [if_pos e1] at h1
      simp at h1
    · rw [if_neg e1] at h1
      rw [gv_set hjV, if_neg (fun e => e1 e.symm)]
      exact h.neg i hi h1
  · rw [List.getElem?_set] at h1
    by_cases e1 : j = i
    · subst e1
      rw [if_pos rfl, if_pos hjH] at h1
      injection h1 with h1
      exact ⟨by omega, .inr ⟨⟨j, v.c, v.s, nx, ck⟩, by simp, rfl⟩⟩
    · rw [if_neg e1] at h1
      obtain ⟨h3, h4⟩ := h.pos i y hi h1 h2
      refine ⟨h3, ?_⟩
      rcases h4 with h4 | ⟨x, hx, hxn⟩
      · exact .inl h4
      · exact .inr ⟨x, by simp [hx], hxn⟩
  · rw [gv_set hjV]
    split
    · exact hvf
    · exact h.fin i hi
theorem offV_no {V : List Vl} {B : List Bool} {h : Nat} {v : Vl} (hn : ¬ (B[h]? = some false ∧ v.c < 1099511627776 ∧ vlt v.c v.s (gv V h).c (gv V h).s = true)) : offV V B h v = V := if_neg hn
theorem offV_yes {V : List Vl} {B : List Bool} {h : Nat} {v : Vl} (h1 : B[h]? = some false) (h2 : v.c < 1099511627776) (h3 : vlt v.c v.s (gv V h).c (gv V h).s = true) : offV V B h v = V.set h v := if_pos ⟨h1, h2, h3⟩
end
/-- What an offer leaves. -/
def OffPost (a : SP) (F : Nat → Prop) (V : List Vl) (B : List Bool) (m : Nat) (w : World) (x : Ending) (w' : World) : Prop := ∃ v, x = .returned v ∧ ∃ G, ST w' a G V B m ∧ Stp a w F w' G

set_option maxRecDepth 100000 in
set_option maxHeartbeats 2000000 in
theorem offer_any (w : World) (a : SP) (F : Nat → Prop) (V : List Vl) (B : List Bool) (m j : Nat) (v : Vl) (h : ST w a F V B m) (ok : a.Ok) (hj : j < a.N) (hv : Nrm v) (hm : m < 99999999) :
    Calls Tryd.prog 48 #[.pointer (some ⟨a.sp, 0, none⟩), .int .i64 j, .agg #[.int .i64 v.c, .int .i64 v.s]] w (OffPost a F (offV V B j v) B (m + 1) w) := by
  obtain ⟨H, Q, nx, ck, hsm, hqi, hnx, hck⟩ := h
  obtain ⟨w1, hw1⟩ : ∃ w1, w.alloc (.cells #[.int .i64 v.c, .int .i64 v.s] 45) = w1 := ⟨_, rfl⟩
  have hb1 : Below w.heap.size w w1 := by rw [← hw1]; exact (Below.refl _ _).alloc (Nat.le_refl _) _
  have HSM := Lib.hid (hsm.below hb1 ok.g)
  have HQI := Lib.hid hqi
  have HOK := Lib.hid ok
  have HV := Lib.hid hv
  have HBX : Hid (PB w1 F w.heap.size 45 #[.int .i64 v.c, .int .i64 v.s]) := by rw [← hw1]; exact hsm.hQ.new _ _
  have HB1 := Lib.hid hb1
  have HW1 := Lib.hid hw1
  have hszw := hsm.kV.1.lt
  have hszs := hsm.rd.kS.lt
  obtain ⟨bx, hbx⟩ : ∃ bx, w.heap.size = bx := ⟨_, rfl⟩
  rw [hbx] at HBX
  have nxv : a.bb ≠ bx := by omega
  have nxs : a.sp ≠ bx := by omega
  have HBXE := Lib.hid hbx
  have c5 := HSM.out.rd.kS.cell 12
  have c6 := HSM.out.rd.kS.cell 13
  simp [SP.cells] at c5 c6
  obtain ⟨bj, hbj⟩ : ∃ bj, B[j]? = some bj := ⟨_, List.getElem?_eq_getElem (by rw [hsm.lB]; exact hj)⟩
  obtain ⟨u, hu⟩ : ∃ u, V[j]? = some u := ⟨_, List.getElem?_eq_getElem (by rw [hsm.lV]; exact hj)⟩
  have b0 := HSM.out.bool_at hbj
  obtain ⟨v0, v1⟩ := HSM.out.kV.1.vl_at hu
  have x0 := HBX.out.1.cell 0
  have x1 := HBX.out.1.cell 1
  simp at x0 x1
  have hgu := gv_at hu
  have HU := Lib.hid (And.intro hu hgu)
  have HBJ := Lib.hid hbj
  clear hsm hqi ok hv hb1 hw1 hu hgu hbj
  by_cases hc : bj = false ∧ v.c < 1099511627776
  case neg =>
    have HN : Hid (offV V B j v = V) := offV_no (by
      rw [HBJ.out]
      rintro ⟨h1, h2, _⟩
      exact hc ⟨by injection h1, h2⟩)
    obtain ⟨d1, d2⟩ | d1 : (bj = false ∧ decide ((1099511627776 : Int) ≤ v.c) = true) ∨ bj = true := by
      cases bj with
      | true => exact .inr rfl
      | false => exact .inl ⟨rfl, by simp; by_cases hl : v.c < 1099511627776; exact absurd ⟨rfl, hl⟩ hc; omega⟩
    all_goals
      subst d1
      clear hc
      go_enter Tryd.func48, Tryd.ntmps48
      go_upto_region 1 with fail
      rw [HW1.out]
      go_quiet (fail)
      go_wp2_with fail
      go_end0
      refine ⟨_, rfl, F, ?_, Stp.of_below (below_drewN HB1.out _)⟩
      rw [HN.out]
      exact ⟨H, Q, nx, ck, HSM.out.below (below_drewN (Below.refl _ _) _) HOK.out.g, HQI.out, by omega, by omega⟩
  case pos =>
  obtain ⟨rfl, hvc⟩ := hc
  have d2 : decide ((1099511627776 : Int) ≤ v.c) = false := by simp; omega
  have hless := fun y : Ext w1 => vless_any v.c v.s u.c u.s y.W
  obtain ⟨l, hl⟩ : ∃ l, vlt v.c v.s u.c u.s = l := ⟨_, rfl⟩
  rw [hl] at hless
  have HL := Lib.hid hless
  have HLV := Lib.hid hl
  have y5 := ext_cell c5
  have y6 := ext_cell c6
  have yb0 := ext_cell b0
  have yv0 := ext_cell v0
  have yv1 := ext_cell v1
  have yx0 := ext_cell x0
  have yx1 := ext_cell x1
  clear hless hl c5 c6 b0 v0 v1 x0 x1
  cases l with
  | false =>
    have HN : Hid (offV V B j v = V) := offV_no (by
      rw [HU.out.2, HLV.out]
      rintro ⟨_, _, h3⟩
      cases h3)
    go_enter Tryd.func48, Tryd.ntmps48
    go_upto_region 1 with fail
    rw [HW1.out]
    refine wp_region_ext (by kernel_rfl) (by kernel_rfl) ?_
    repeat (go_big_quiet_step (exact calls_ext (HL.out _)))
    refine wpQuiet_nil ?_
    rintro _ ⟨y, rfl⟩
    go_wp2_with fail
    go_end0
    refine ⟨_, rfl, F, ?_, Stp.of_below (HB1.out.trans (y.h.mono HB1.out.size))⟩
    rw [HN.out]
    exact ⟨H, Q, nx, ck, HSM.out.below y.h HOK.out.g, HQI.out, by omega, by omega⟩
  | true =>
  have HN : Hid (offV V B j v = V.set j v) := offV_yes HBJ.out hvc (by rw [HU.out.2, HLV.out])
  go_enter Tryd.func48, Tryd.ntmps48
  go_upto_region 1 with fail
  rw [HW1.out]
  refine wp_region_ext (by kernel_rfl) (by kernel_rfl) ?_
  repeat (go_big_quiet_step (exact calls_ext (HL.out _)))
  refine wpQuiet_nil ?_
  rintro _ ⟨y, rfl⟩
  have HSM2 := Lib.hid (HSM.out.below y.h HOK.out.g)
  have HBX2 := Lib.hid (HBX.out.below y.h)
  have HB2 := Lib.hid (HB1.out.trans (y.h.mono HB1.out.size))
  clear y5 y6 yb0 yv0 yv1 yx0 yx1 HL
  generalize y.W = w2 at HSM2 HBX2 HB2 ⊢
  clear y HSM HBX HB1 HW1
  go_upto_region 2 with fail
  have c12 := HSM2.out.rd.kS.cell 12
  simp [SP.cells] at c12
  obtain ⟨v0, v1⟩ := HSM2.out.kV.1.vl_at HU.out.1
  have z0 := HSM2.out.kV.1.frozen (j * 2)
  have z1 := HSM2.out.kV.1.frozen (j * 2 + 1)
  have x0 := HBX2.out.1.cell 0
  have x1 := HBX2.out.1.cell 1
  simp at x0 x1
  have HSM3 : Hid (SM (World.drew ((w2.setCell ⟨a.bb, j * 2, none⟩ (.int .i64 v.c)).setCell ⟨a.bb, j * 2 + 1, none⟩ (.int .i64 v.s))) a F (V.set j v) B H Q nx ck) := (HSM2.out.setV HOK.out.g hj v).below (Below.refl _ _).drew HOK.out.g
  have HST3 : Hid (Stp a w F (World.drew ((w2.setCell ⟨a.bb, j * 2, none⟩ (.int .i64 v.c)).setCell ⟨a.bb, j * 2 + 1, none⟩ (.int .i64 v.s))) F) := (((Stp.of_below HB2.out).setCell (p := ⟨a.bb, j * 2, none⟩) (.inl rfl) _).setCell (p := ⟨a.bb, j * 2 + 1, none⟩) (.inl rfl) _).next (Below.refl _ _).drew
  go_still_tail 7, (by kernel_rfl)
  change wpList _ _ _ _ _ w2.drew
  go_upto_region 3 with fail
  clear c12 v0 v1 z0 z1 x0 x1
  generalize (World.drew ((w2.setCell ⟨a.bb, j * 2, none⟩ (.int .i64 v.c)).setCell ⟨a.bb, j * 2 + 1, none⟩ (.int .i64 v.s))) = w3 at HSM3 HST3 ⊢
  clear HSM2 HBX2 HB2
  obtain ⟨hx, hhx⟩ : ∃ hx, H[j]? = some hx := ⟨_, List.getElem?_eq_getElem (by rw [HSM3.out.lH]; exact hj)⟩
  have c14 := HSM3.out.rd.kS.cell 14
  have c15 := HSM3.out.rd.kS.cell 15
  simp [SP.cells] at c14 c15
  have h0 := HSM3.out.hand_at hhx
  have HHX := Lib.hid hhx
  have HSMd : Hid (SM w3.drew a F (V.set j v) B H Q nx ck) := HSM3.out.below (Below.refl _ _).drew HOK.out.g
  have hnd : (Q.map Ent.h).Nodup := HSM3.out.hQ.1.hd
  have HND := Lib.hid hnd
  have HSTd : Hid (Stp a w F w3.drew F) := HST3.out.next (Below.refl _ _).drew
  clear hhx hnd
  by_cases hxn : hx = -1
  case neg =>
    have hps := HQI.out.pos j hx hj HHX.out hxn
    obtain ⟨e0, he0, hen0⟩ : ∃ e ∈ Q, e.node = (j : Nat) := by
      rcases hps.2 with h1 | h1
      · rw [HBJ.out] at h1; simp at h1
      · exact h1
    have heh : hx = (e0.h : Int) := by
      have := (HQI.out.node he0 hen0).1
      rw [HHX.out] at this
      injection this
    subst heh
    have d3 : decide ((0 : Int) ≤ (e0.h : Int)) = true := by simp
    have HE0 := Lib.hid (And.intro he0 hen0)
    have HUP := Lib.hid (updq_any (a.Z (V.set j v)) (e0.h : Int) (j : Nat) v.c v.s HSMd.out.hQ HSMd.out.env HSMd.out.apart
      (fun e he hne => by
        obtain ⟨i, h1, h2, h3, h4, h5, h6⟩ := HQI.out.ent e he
        refine ⟨i, h1, h2, ?_⟩
        show (V.set j v)[i]? = _
        rw [List.getElem?_set, if_neg]
        · exact h5
        · intro e1
          subst e1
          have := HHX.out
          rw [h4] at this
          injection this with this
          exact hne this)
      (fun _ _ => ⟨j, hj, rfl, by show (V.set j v)[j]? = _; rw [List.getElem?_set, if_pos rfl, if_pos (by have := HSMd.out.lV; rw [List.length_set] at this; omega)]⟩)
      (wfN (n := e0.h) (by have := HSMd.out.hQ.ok.hb e0 he0; have := HSMd.out.hQ.ok.nxb; omega)) (by omega) ⟨e0, he0, rfl⟩)
    clear hps he0 hen0 hxn
    go_upto_region 4 with fail
    go_still_tail 12, (by kernel_rfl)
    change wpList _ _ _ _ _ w3.drew
    go_wp2_with fail
    refine HUP.out.mono ?_
    rintro x w4 ⟨e, L1, hp4, heh, rfl, G, hq4, hs4⟩
    go_wp2_with fail
    go_end0
    have hee : e = e0 := uniq_map HND.out (hp4.mem_iff.2 (by simp)) HE0.out.1 (by omega)
    refine ⟨_, rfl, G, ?_, HSTd.out.trans (Stp.of_step hs4)⟩
    rw [HN.out]
    refine ⟨H, _, nx, ck + 1, HSMd.out.step hs4 hq4 HOK.out.g, HQI.out.upd HND.out hp4 (by rw [hee]; exact HE0.out.2) hj (by have := HSMd.out.lV; rw [List.length_set] at this; exact this) HBJ.out (by rw [hee]; exact HHX.out) HV.out hvc, by omega, by omega⟩
  case pos =>
    subst hxn
    have d3 : decide ((0 : Int) ≤ -1) = false := by decide
    have HPU := Lib.hid (pushq_any (a.Z (V.set j v)) (j : Nat) v.c v.s HSMd.out.hQ HSMd.out.env HSMd.out.apart
      (fun e he => by
        obtain ⟨i, h1, h2, h3, h4, h5, h6⟩ := HQI.out.ent e he
        refine ⟨i, h1, h2, ?_⟩
        show (V.set j v)[i]? = _
        rw [List.getElem?_set, if_neg]
        · exact h5
        · intro e1
          subst e1
          have := HHX.out
          rw [h4] at this
          injection this with this
          omega)
      ⟨j, hj, rfl, by show (V.set j v)[j]? = _; rw [List.getElem?_set, if_pos rfl, if_pos (by have := HSMd.out.lV; rw [List.length_set] at this; omega)]⟩ (by omega) (by omega))
    have HS0 : Hid (w3.drew.cell? ⟨a.sp, 14, none⟩ = some (.slice (some ⟨a.hb, 0, none⟩) a.N a.N) ∧ w3.drew.cell? ⟨a.sp, 15, none⟩ = some (.pointer (some ⟨a.q, 0, none⟩))) := ⟨HSMd.out.rd.kS.cell 14, HSMd.out.rd.kS.cell 15⟩
    go_upto_region 5 with fail
    clear c14 c15
    go_region_held3 (fun w' => w'.cell? ⟨a.sp, 14, none⟩ = some (.slice (some ⟨a.hb, 0, none⟩) a.N a.N) ∧ w'.cell? ⟨a.sp, 15, none⟩ = some (.pointer (some ⟨a.q, 0, none⟩)))
      (first | with_reducible exact HS0.out | with_reducible exact HS1.out | with_reducible exact HS2.out)
      (first | (go_at_call 58; (with_reducible refine HPU.out.mono ?_); rintro x5 w5 ⟨rfl, G5, hq5, hs5⟩; have hsm5 := HSMd.out.step hs5 hq5 HOK.out.g; have h05 := hsm5.hand_at HHX.out; have hz5 := hsm5.kH.1.frozen j; have HS1 : Hid (w5.cell? ⟨a.sp, 14, none⟩ = some (.slice (some ⟨a.hb, 0, none⟩) a.N a.N) ∧ w5.cell? ⟨a.sp, 15, none⟩ = some (.pointer (some ⟨a.q, 0, none⟩))) := ⟨hsm5.rd.kS.cell 14, hsm5.rd.kS.cell 15⟩; have hsm6 := hsm5.setH HOK.out.g j (nx : Nat); have HS2 : Hid ((w5.setCell ⟨a.hb, j, none⟩ (.int .i64 (nx : Nat))).cell? ⟨a.sp, 14, none⟩ = some (.slice (some ⟨a.hb, 0, none⟩) a.N a.N) ∧ (w5.setCell ⟨a.hb, j, none⟩ (.int .i64 (nx : Nat))).cell? ⟨a.sp, 15, none⟩ = some (.pointer (some ⟨a.q, 0, none⟩))) := ⟨hsm6.rd.kS.cell 14, hsm6.rd.kS.cell 15⟩; have HSM6 := Lib.hid hsm6; have HST5 := Lib.hid (HSTd.out.trans (Stp.of_step hs5)); clear hq5 hs5 hsm5 hsm6))
    all_goals
      go_wp2_with fail
      go_end0
      refine ⟨_, rfl, G5, ?_, HST5.out.setCell (p := ⟨a.hb, j, none⟩) (.inr (.inr rfl)) _⟩
      rw [HN.out]
      exact ⟨_, _, nx + 1, ck + 1, HSM6.out, HQI.out.push hj (by have := HSMd.out.lV; rw [List.length_set] at this; exact this) HSMd.out.lH HBJ.out HHX.out HV.out hvc, by omega, by omega⟩
end Go.Proofs.YthakcefgbggkcaaDoor

namespace Go.Proofs.YthakcefgbggkcaaDoor
open Go.RowKit Go.Proofs Go.Shelf Go.Lib Go.Sort

shelf_lay SlLaysO.n16 Slso 16 at Tryd as Tryd.search

/-- An arc lies at the span or behind it. -/
def Ar.ge (s t : Nat) (a : Ar) : Bool := decide ((s : Int) < a.fr) || (decide (a.fr = s) && decide ((t : Int) ≤ a.tt))
def arGe (L : List Ar) (s t i : Nat) : Bool := match L[i]? with
  | some a => a.ge s t
  | none => true
theorem ars_lt {S : Nat} {L : List Ar} (h : ArsOk S L) : ∀ (d i : Nat) (a b : Ar), L[i]? = some a → L[i + d + 1]? = some b → a.bf b
  | 0, i, a, b, ha, hb => h.so i a b ha hb
  | d + 1, i, a, b, ha, hb => by
    have hc := List.getElem?_eq_getElem (l := L) (i := i + d + 1) (by have := (List.getElem?_eq_some_iff.1 hb).1; omega)
    have h1 := ars_lt h d i a _ ha hc
    have h2 := h.so (i + d + 1) _ b hc hb
    unfold Ar.bf at *
    omega
theorem ars_le {S : Nat} {L : List Ar} (h : ArsOk S L) {i j : Nat} {a b : Ar} (hij : i < j) (ha : L[i]? = some a) (hb : L[j]? = some b) : a.bf b :=
  ars_lt h (j - i - 1) i a b ha (by rw [show i + (j - i - 1) + 1 = j by omega]; exact hb)
theorem arGe_mono {S : Nat} {L : List Ar} (h : ArsOk S L) {s t i j : Nat} (hij : i ≤ j) (hj : j < L.length) (hi : arGe L s t i = true) : arGe L s t j = true := by
  rcases Nat.lt_or_ge i j with hl | hl
  · have ha := List.getElem?_eq_getElem (l := L) (i := i) (by omega)
    have hb := List.getElem?_eq_getElem (l := L) (i := j) hj
    have hab := ars_le h hl ha hb
    unfold arGe at *
    rw [ha] at hi
    rw [hb]
    simp only [Ar.ge, Bool.or_eq_true, Bool.and_eq_true, decide_eq_true_eq] at *
    unfold Ar.bf at hab
    omega
  · have : i = j := by omega
    rw [← this]; exact hi
/-- How many arcs lie ahead of a span. -/
def arLo (L : List Ar) (s t : Nat) : Nat := (List.range L.length).countP fun i => !arGe L s t i
theorem countP_pre (p : Nat → Bool) : ∀ n, (∀ a b, a ≤ b → b < n → p a = true → p b = true) → (∀ i, i < (List.range n).countP (fun i => !p i) → p i = false) ∧ (∀ i, (List.range n).countP (fun i => !p i) ≤ i → i < n → p i = true) ∧ (List.range n).countP (fun i => !p i) ≤ n
  | 0, _ => ⟨fun i hi => by simp at hi, fun i _ h => absurd h (by omega), by simp⟩
  | n + 1, hm => by
    obtain ⟨h1, h2, h3⟩ := countP_pre p n fun a b h1 h2 h3 => hm a b h1 (by omega) h3
    rw [List.range_succ, List.countP_append]
    cases hp : p n with
    | true =>
      simp only [List.countP_cons, hp, Bool.not_true, Bool.false_eq_true, if_false, List.countP_nil, Nat.add_zero]
      refine ⟨h1, fun i hi hin => ?_, by omega⟩
      rcases Nat.lt_or_ge i n with h | h
      · exact h2 i hi h
      · have : i = n := by omega
        rw [this]; exact hp
    | false =>
      have hall : ∀ i, i < n → p i = false := fun i hi => by
        cases hpi : p i with
        | false => rfl
        | true => have := hm i n (by omega) (by omega) hpi; rw [hp] at this; cases this
      have hc : (List.range n).countP (fun i => !p i) = n := by
        apply Classical.byContradiction
        intro hne
        have := h2 ((List.range n).countP (fun i => !p i)) (Nat.le_refl _) (by omega)
        rw [hall _ (by omega)] at this
        cases this
      simp only [List.countP_cons, hp, Bool.not_false, if_true, List.countP_nil, hc]
      refine ⟨fun i hi => ?_, fun i hi hin => by omega, by omega⟩
      rcases Nat.lt_or_ge i n with h | h
      · exact hall i h
      · have : i = n := by omega
        rw [this]; exact hp
def Ar.at_ (s t : Nat) (a : Ar) : Bool := decide (a.fr = s) && decide (a.tt = t)
def arAt (L : List Ar) (s t i : Nat) : Bool := match L[i]? with
  | some a => a.at_ s t
  | none => false
/-- The arcs of a span: from lo to hi. -/
structure ArSpan (L : List Ar) (s t lo hi : Nat) : Prop where
  le : lo ≤ hi
  len : hi ≤ L.length
  pre : ∀ i, i < lo → arAt L s t i = false
  mid : ∀ i, lo ≤ i → i < hi → arAt L s t i = true
  post : ∀ i, hi ≤ i → arAt L s t i = false
theorem arSpan_mk {S : Nat} {L : List Ar} (h : ArsOk S L) {s t lo hi : Nat} (hlo : lo = arLo L s t) (h1 : lo ≤ hi) (h2 : hi ≤ L.length) (h3 : ∀ i, lo ≤ i → i < hi → arAt L s t i = true) (h4 : arAt L s t hi = false) : ArSpan L s t lo hi := by
  obtain ⟨c1, c2, c3⟩ := countP_pre (arGe L s t) L.length fun a b => arGe_mono h
  rw [show (List.range L.length).countP (fun i => !arGe L s t i) = lo from hlo.symm] at c1 c2 c3
  refine ⟨h1, h2, fun i hi => ?_, h3, fun i hii => ?_⟩
  · have hg := c1 i hi
    unfold arGe at hg
    unfold arAt
    cases ha : L[i]? with
    | none => rfl
    | some a =>
      rw [ha] at hg
      simp only [Ar.ge, Bool.or_eq_false_iff, Bool.and_eq_false_iff, decide_eq_false_iff_not] at hg
      simp only [Ar.at_, Bool.and_eq_false_iff, decide_eq_false_iff_not]
      omega
  · rcases Nat.lt_or_ge i L.length with hl | hl
    · rcases Nat.eq_or_lt_of_le hii with e | hlt
      · rw [← e]; exact h4
      · have ha := List.getElem?_eq_getElem (l := L) (i := i) hl
        have hb := List.getElem?_eq_getElem (l := L) (i := hi) (by omega)
        have hg := c2 hi h1 (by omega)
        have hab := ars_le h hlt hb ha
        unfold arGe at hg
        unfold arAt at *
        rw [hb] at hg h4
        rw [ha]
        simp only [Ar.ge, Bool.or_eq_true, Bool.and_eq_true, decide_eq_true_eq] at hg
        simp only [Ar.at_, Bool.and_eq_false_iff, decide_eq_false_iff_not] at h4 ⊢
        unfold Ar.bf at hab
        omega
    · unfold arAt
      rw [List.getElem?_eq_none hl]
set_option maxRecDepth 100000 in
set_option maxHeartbeats 2000000 in
theorem ask_any (w : World) (a : SP) (cb i : Nat) (x : Ar) (hR : Rd w a) (hg : 0 < a.base) (hC : w.cell? ⟨cb, 0, none⟩ = some (.pointer (some ⟨a.sp, 0, none⟩))) (hx : a.L[i]? = some x) :
    Calls Tryd.prog 67 (#[.int .i64 i] ++ #[.pointer (some ⟨cb, 0, none⟩)]) w fun e w' => e = .returned (.bool (x.ge a.s a.t)) ∧ ∃ q os', w' = grow (w.drewN q) os' := by
  have hil := (List.getElem?_eq_some_iff.1 hx).1
  obtain ⟨b, off, y, hA, hb, hy, p0, p1, p2, p3, p4⟩ := hR.rL.ar_at hil
  obtain rfl : x = y := by rw [hx] at hy; injection hy
  obtain ⟨n, hn⟩ : ∃ n, a.L.length = n := ⟨_, rfl⟩
  have hba : Below w.heap.size w (w.alloc (.cells #[.int .i64 x.fr, .int .i64 x.tt, .int .i64 x.tm, .int .i64 x.co, .slice x.A x.n x.c] 68)) := (Below.refl _ _).alloc (Nat.le_refl _) _
  have c5 := hR.kS.cell 5
  have c10 := (hR.below hba hg).kS.cell 10
  have c11 := (hR.below hba hg).kS.cell 11
  simp [SP.cells] at c5 c10 c11
  rw [hA, hn] at c5
  rw [hn] at hil
  have hC1 := (hba.cell (p := ⟨cb, 0, none⟩) (World.block_lt_of_cell? w _ hC)).trans hC
  obtain ⟨ss, hss⟩ : ∃ ss, a.s = ss := ⟨_, rfl⟩
  obtain ⟨tt, htt⟩ : ∃ tt, a.t = tt := ⟨_, rfl⟩
  rw [hss] at c10
  rw [htt] at c11
  rw [hss, htt]
  have hge : x.ge ss tt = (decide ((ss : Int) < x.fr) || (decide (x.fr = ss) && decide ((tt : Int) ≤ x.tt))) := rfl
  rw [hge]
  have hilI : (i : Int) < (n : Int) := by omega
  have HF : Hid (∀ q, ∃ q' os', ((w.alloc (.cells #[.int .i64 x.fr, .int .i64 x.tt, .int .i64 x.tm, .int .i64 x.co, .slice x.A x.n x.c] 68)).drewN q) = grow (w.drewN q') os') := fun q => ⟨q, #[.cells #[.int .i64 x.fr, .int .i64 x.tt, .int .i64 x.tm, .int .i64 x.co, .slice x.A x.n x.c] 68], by rw [alloc_eq_grow]; rfl⟩
  clear hge hba hn hss htt hA hR hx hy
  obtain ⟨d1, hr⟩ | ⟨r, d1, d2, d3, hr⟩ | ⟨d1, d2, hr⟩ : (decide ((ss : Int) < x.fr) = true ∧ Hid ((decide ((ss : Int) < x.fr) || (decide (x.fr = ss) && decide ((tt : Int) ≤ x.tt))) = true)) ∨ (∃ r : Bool, decide ((ss : Int) < x.fr) = false ∧ (x.fr == (ss : Int)) = true ∧ decide ((tt : Int) ≤ x.tt) = r ∧ Hid ((decide ((ss : Int) < x.fr) || (decide (x.fr = ss) && decide ((tt : Int) ≤ x.tt))) = r)) ∨ (decide ((ss : Int) < x.fr) = false ∧ (x.fr == (ss : Int)) = false ∧ Hid ((decide ((ss : Int) < x.fr) || (decide (x.fr = ss) && decide ((tt : Int) ≤ x.tt))) = false)) := by
    by_cases h1 : (ss : Int) < x.fr
    · exact .inl ⟨by simpa using h1, Lib.hid (by simp [h1])⟩
    · by_cases h2 : x.fr = ss
      · exact .inr (.inl ⟨_, by simpa using h1, by simpa using h2, rfl, Lib.hid (by simp [h2])⟩)
      · exact .inr (.inr ⟨by simpa using h1, by simpa using h2, Lib.hid (by simp [h1, h2])⟩)
  · go_enter Tryd.func67, Tryd.ntmps67
    go_upto_region 2 with fail
    go_quiet (fail)
    go_wp2_with fail
    go_ret
    exact ⟨ret_bool hr.out.symm, HF.out _⟩
  · go_enter Tryd.func67, Tryd.ntmps67
    go_upto_region 2 with fail
    go_quiet (fail)
    go_wp2_with fail
    go_ret
    exact ⟨ret_bool hr.out.symm, HF.out _⟩
  · go_enter Tryd.func67, Tryd.ntmps67
    go_upto_region 2 with fail
    go_quiet (fail)
    go_wp2_with fail
    go_ret
    exact ⟨ret_bool hr.out.symm, HF.out _⟩

theorem at_cases3 (L : List Ar) (s t i : Nat) (x : Ar) (hx : L[i]? = some x) : (Hid (arAt L s t i = true) ∧ (x.fr == (s : Int)) = true ∧ (x.tt == (t : Int)) = true) ∨ (Hid (arAt L s t i = false) ∧ (x.fr == (s : Int)) = false) ∨ (Hid (arAt L s t i = false) ∧ (x.fr == (s : Int)) = true ∧ (x.tt == (t : Int)) = false) := by
  unfold arAt
  rw [hx]
  by_cases h1 : x.fr = s
  · by_cases h2 : x.tt = t
    · exact .inl ⟨Lib.hid (by simp [Ar.at_, h1, h2]), by simpa using h1, by simpa using h2⟩
    · exact .inr (.inr ⟨Lib.hid (by simp [Ar.at_, h2]), by simpa using h1, by simpa using h2⟩)
  · exact .inr (.inl ⟨Lib.hid (by simp [Ar.at_, h1]), by simpa using h1⟩)
/-- What 'arcs' hands back. -/
def ArcsPost (a : SP) (w : World) (e : Ending) (w' : World) : Prop := ∃ lo hi : Nat, e = .returned (.tuple #[.int .i64 lo, .int .i64 hi]) ∧ ArSpan a.L a.s a.t lo hi ∧ Below w.heap.size w w'
set_option maxRecDepth 100000 in
set_option maxHeartbeats 4000000 in
theorem arcs_any (w : World) (a : SP) (hR : Rd w a) (ok : a.Ok) : Calls Tryd.prog 56 #[.pointer (some ⟨a.sp, 0, none⟩)] w (ArcsPost a w) := by
  have hmf : ∀ (fn : Fn) (first cap : Array Value) (w : World), (Instr.makeFunc fn first cap).run Tryd.prog w = .ok (.func fn first cap) w := fun _ _ _ _ => rfl
  obtain ⟨W, hW⟩ : ∃ W, w.alloc (.cells #[.pointer (some ⟨a.sp, 0, none⟩)] 83) = W := ⟨_, rfl⟩
  have hb0 : Below w.heap.size w W := by rw [← hW]; exact (Below.refl _ _).alloc (Nat.le_refl _) _
  have hsW : W.heap.size = w.heap.size + 1 := by rw [← hW]; simp
  have KC : Blk W w.heap.size 83 #[.pointer (some ⟨a.sp, 0, none⟩)] := by rw [← hW]; exact Blk.new' w _ _ rfl
  have hRW := hR.below hb0 ok.g
  have hnL := ok.nL
  have eg : ∀ args w, (callFunc 67 args).run Tryd.prog w = .ok (.enter 67 args) w := enters_of Tryd.func67 (by kernel_rfl) rfl
  have hS := Any.sort_Search Tryd.search 67 #[.pointer (some ⟨w.heap.size, 0, none⟩)] a.L.length (arGe a.L a.s a.t) W eg (by omega)
    (fun m os i hi => by
      have hx := List.getElem?_eq_getElem (l := a.L) (i := i) hi
      have hbg : Below W.heap.size W (grow (W.drewN m) os) := below_grown_sl W.heap.size W m os (Nat.le_refl _)
      have := ask_any (grow (W.drewN m) os) a w.heap.size i _ (hRW.below hbg ok.g) ok.g ((KC.below hbg (by omega)).cell 0) hx
      have e : arGe a.L a.s a.t i = (a.L[i]).ge a.s a.t := by unfold arGe; rw [hx]
      rw [e]
      exact this)
    (fun x y hxy hy h => arGe_mono ok.L hxy hy h)
  obtain ⟨lo, hlo⟩ : ∃ lo, (List.range a.L.length).countP (fun i => !arGe a.L a.s a.t i) = lo := ⟨_, rfl⟩
  obtain ⟨c1, c2, c3⟩ := countP_pre (arGe a.L a.s a.t) a.L.length fun a b => arGe_mono ok.L
  rw [hlo] at hS c1 c2 c3
  change Calls Tryd.prog 66 _ _ _ at hS
  have HLO : Hid (lo = arLo a.L a.s a.t) := hlo.symm
  have HR := Lib.hid hRW
  have HOK := Lib.hid ok
  have HKC := Lib.hid KC
  have HB0 := Lib.hid hb0
  have HW := Lib.hid hW
  have c5 := hRW.kS.cell 5
  have k0 := KC.cell 0
  simp [SP.cells] at c5 k0
  obtain ⟨n, hn⟩ : ∃ n, a.L.length = n := ⟨_, rfl⟩
  rw [hn] at hS c5 hnL c3
  have HN := Lib.hid hn
  obtain ⟨bc, hbc⟩ : ∃ bc, w.heap.size = bc := ⟨_, rfl⟩
  rw [hbc] at hS k0 HKC
  have HBC := Lib.hid hbc
  have HS := Lib.hid hS
  have hbcW : bc < W.heap.size := by omega
  clear hS eg hlo c1 c2 KC hb0 hW hRW hR ok hn hsW
  go_enter Tryd.func56, Tryd.ntmps56
  go_upto_region 1 with fail
  rw [HW.out]
  go_wp2_with fail
  refine HS.out.mono ?_
  rintro e w1 ⟨rfl, q, os, rfl⟩
  have hb1 : Below W.heap.size W (grow (W.drewN q) os) := below_grown_sl W.heap.size W q os (Nat.le_refl _)
  have HB1 := Lib.hid hb1
  generalize grow (W.drewN q) os = w1 at HB1 ⊢
  clear hb1 HS c5 k0 hbc
  have HR1 := Lib.hid (HR.out.below HB1.out HOK.out.g)
  have HK1 := Lib.hid (HKC.out.below HB1.out hbcW)
  have HBB : Hid (Below w.heap.size w w1) := HB0.out.trans (HB1.out.mono HB0.out.size)
  go_wp2_with fail
  go_loopw [5] (fun x wr => ∃ hi : Nat, lo ≤ hi ∧ hi ≤ n ∧ x = .int .i64 hi ∧ Hid (∀ i, lo ≤ i → i < hi → arAt a.L a.s a.t i = true) ∧ Hid (Below w1.heap.size w1 wr)) (fun x _ => n - (intOf x).toNat)
  case atStart => exact ⟨lo, Nat.le_refl _, c3, rfl, Lib.hid (fun i h1 h2 => by omega), Lib.hid (Below.refl _ _)⟩
  case round =>
    obtain ⟨hi, h1, h2, rfl, HM, HBw⟩ := hrel
    have hR2 := HR1.out.below HBw.out HOK.out.g
    have hK2 := HK1.out.below HBw.out HK1.out.lt
    have c5 := hR2.kS.cell 5
    have k0 := hK2.cell 0
    simp [SP.cells] at c5 k0
    rw [HN.out] at c5
    by_cases hlt : hi < n
    case neg =>
      have hltD : decide (hi < n) = false := by simp [hlt]
      have HF : Hid (ArSpan a.L a.s a.t lo hi) := arSpan_mk HOK.out.L HLO.out h1 (by rw [HN.out]; exact h2) HM.out (by unfold arAt; rw [List.getElem?_eq_none (by rw [HN.out]; omega)])
      clear hR2 hK2
      go_wp2_with fail
      go_quiet (fail)
      go_wp2_with fail
      go_ret2
      exact ⟨lo, hi, rfl, HF.out, below_drewN (HBB.out.trans (HBw.out.mono HBB.out.size)) _⟩
    case pos =>
      have hltD : decide (hi < n) = true := by simp [hlt]
      have hx := List.getElem?_eq_getElem (l := a.L) (i := hi) (by rw [HN.out]; exact hlt)
      obtain ⟨b, off, y, hA, hb, hy, p0, p1, p2, p3, p4⟩ := hR2.rL.ar_at (k := hi) (by rw [HN.out]; exact hlt)
      have c10 := hR2.kS.cell 10
      have c11 := hR2.kS.cell 11
      simp [SP.cells] at c10 c11
      have key := at_cases3 a.L a.s a.t hi y hy
      obtain ⟨ss, hss⟩ : ∃ ss, a.s = ss := ⟨_, rfl⟩
      obtain ⟨tt, htt⟩ : ∃ tt, a.t = tt := ⟨_, rfl⟩
      have HST := Lib.hid (And.intro hss htt)
      rw [hss] at c10
      rw [htt] at c11
      rw [hss, htt] at key
      rw [hA] at c5
      clear hR2 hK2 hx hy hss htt hA
      have hltI : (hi : Int) < (n : Int) := by omega
      rcases key with ⟨ha, d1, d2⟩ | ⟨ha, d1⟩ | ⟨ha, d1, d2⟩
      · have HM2 : Hid (∀ i, lo ≤ i → i < hi + 1 → arAt a.L a.s a.t i = true) := fun i h3 h4 => by
          rcases Nat.lt_or_ge i hi with h5 | h5
          · exact HM.out i h3 h5
          · have : i = hi := by omega
            rw [this, HST.out.1, HST.out.2]; exact ha.out
        clear HM
        go_wp2_with fail
        go_quiet (fail)
        go_wp2_with fail
        go_roundw
        case rel => exact ⟨hi + 1, by omega, by omega, by go_num, HM2, Lib.hid (below_drewN HBw.out _)⟩
        case measure => simp [intOf]; omega
      all_goals
        have HF : Hid (ArSpan a.L a.s a.t lo hi) := arSpan_mk HOK.out.L HLO.out h1 (by rw [HN.out]; exact h2) HM.out (by rw [HST.out.1, HST.out.2]; exact ha.out)
        go_wp2_with fail
        go_quiet (fail)
        go_wp2_with fail
        go_ret2
        exact ⟨lo, hi, rfl, HF.out, below_drewN (HBB.out.trans (HBw.out.mono HBB.out.size)) _⟩
end Go.Proofs.YthakcefgbggkcaaDoor

namespace Go.Proofs.YthakcefgbggkcaaDoor
open Go.RowKit

/-- What a call of the function that is handed the instances leaves. -/
def CbPost (a : SP) (I : List Ins → (Nat → Prop) → World → Prop) (Fin : (Nat → Prop) → World → Prop) (d : List Ins) (i : Ins) (F : Nat → Prop) (w : World) (e : Ending) (w' : World) : Prop :=
  ∃ (b : Bool) (G : Nat → Prop), e = .returned (.bool b) ∧ Stp a w F w' G ∧ (b = true → I (d ++ [i]) G w') ∧ (b = false → Fin G w')
/-- A function that may be handed the instances l, one by one: I holds behind those that were handed over, Fin where it has said 'no'. -/
structure Cbk (a : SP) (l : List Ins) (fid : Nat) (caps : Array Value) (I : List Ins → (Nat → Prop) → World → Prop) (Fin : (Nat → Prop) → World → Prop) : Prop where
  rd : ∀ {d F w}, I d F w → Rd w a
  lt : ∀ {d F w}, I d F w → ∀ k, F k → k < w.heap.size
  bl : ∀ {d F w}, I d F w → a.bb < w.heap.size ∧ a.fb < w.heap.size ∧ a.hb < w.heap.size
  ns : ∀ {d F w}, I d F w → ¬ F a.sp ∧ a.sp ≠ a.bb ∧ a.sp ≠ a.fb ∧ a.sp ≠ a.hb
  below : ∀ {d F w w'}, I d F w → Below w.heap.size w w' → I d F w'
  enters : ∀ args w, (callFunc fid args).run Tryd.prog w = .ok (.enter fid args) w
  call : ∀ (d : List Ins) (i : Ins) (rest : List Ins) (F : Nat → Prop) (w : World) (A : Option Addr) (c : Nat), l = d ++ i :: rest → I d F w → Reads w w.heap.size 3 A i.us.length (its i.us) →
    Calls Tryd.prog fid (#[.int .i64 i.arg, .int .i64 i.pr, .slice A i.us.length c] ++ caps) w (CbPost a I Fin d i F w)
def InsPost (a : SP) (l : List Ins) (I : List Ins → (Nat → Prop) → World → Prop) (Fin : (Nat → Prop) → World → Prop) (F : Nat → Prop) (w : World) (e : Ending) (w' : World) : Prop :=
  ∃ v, e = .returned v ∧ ∃ G, Stp a w F w' G ∧ (I l G w' ∨ Fin G w')
def Rl.val (r : Rl) : Value := .agg #[.int .i64 r.k, .int .i64 r.hd, .int .i64 r.a, .int .i64 r.b, .int .i64 r.p, .int .i64 r.o]

section
variable {a : SP} {l : List Ins} {fid : Nat} {caps : Array Value} {I : List Ins → (Nat → Prop) → World → Prop} {Fin : (Nat → Prop) → World → Prop}
set_option maxRecDepth 100000 in
set_option maxHeartbeats 2000000 in
theorem ins_empty (w : World) (r : Rl) (F : Nat → Prop) (_ok : a.Ok) (hk : r.k = 1) (hcb : Cbk a (insts a.L a.s a.t r) fid caps I Fin) (hI : I [] F w) :
    Calls Tryd.prog 45 #[.pointer (some ⟨a.sp, 0, none⟩), r.val, .func (.func fid) #[] caps] w (InsPost a (insts a.L a.s a.t r) I Fin F w) := by
  obtain ⟨rk, rh, ra, rb, rp, ro⟩ := r
  simp only at hk
  subst hk
  simp only [Rl.val]
  obtain ⟨w1, hw1⟩ : ∃ w1, w.alloc (.cells #[.int .i64 1, .int .i64 rh, .int .i64 ra, .int .i64 rb, .int .i64 rp, .int .i64 ro] 65) = w1 := ⟨_, rfl⟩
  have hb1 : Below w.heap.size w w1 := by rw [← hw1]; exact (Below.refl _ _).alloc (Nat.le_refl _) _
  have K1 : Blk w1 w.heap.size 65 #[.int .i64 1, .int .i64 rh, .int .i64 ra, .int .i64 rb, .int .i64 rp, .int .i64 ro] := by rw [← hw1]; exact Blk.new' w _ _ rfl
  have hI1 := hcb.below hI hb1
  have hR1 := hcb.rd hI1
  have c10 := hR1.kS.cell 10
  have c11 := hR1.kS.cell 11
  have k0 := K1.cell 0
  have k4 := K1.cell 4
  simp [SP.cells] at c10 c11 k0 k4
  have HCB := Lib.hid hcb
  have HI1 := Lib.hid hI1
  have HW1 := Lib.hid hw1
  have HB1 := Lib.hid hb1
  obtain ⟨ss, hss⟩ : ∃ ss, a.s = ss := ⟨_, rfl⟩
  obtain ⟨tt, htt⟩ : ∃ tt, a.t = tt := ⟨_, rfl⟩
  have HST := Lib.hid (And.intro hss htt)
  rw [hss] at c10
  rw [htt] at c11
  obtain ⟨bx, hbx⟩ : ∃ bx, w.heap.size = bx := ⟨_, rfl⟩
  rw [hbx] at k0 k4 K1
  have HK1 := Lib.hid K1
  have HBX := Lib.hid hbx
  clear hcb hI hI1 hw1 hb1 K1 hR1 hss htt _ok
  by_cases hst : ss = tt
  case pos =>
    subst hst
    have d1 : ((ss : Int) == (ss : Int)) = true := by simp
    have hl : insts a.L a.s a.t ⟨1, rh, ra, rb, rp, ro⟩ = [⟨ss, rp, []⟩] := by
      unfold insts
      rw [HST.out.1, HST.out.2]
      simp
    have HL := Lib.hid hl
    clear hl
    go_enter Tryd.func45, Tryd.ntmps45
    go_upto_region 1 with fail
    rw [HW1.out]
    go_upto_region 3 with fail
    go_quiet (fail)
    go_upto_region 4 with fail
    have HI2 := Lib.hid (HCB.out.below HI1.out (below_drewN (Below.refl _ _) nq))
    have HK2 := Lib.hid (HK1.out.below (below_drewN (Below.refl _ _) nq) HK1.out.lt)
    have HB2 := Lib.hid (below_drewN HB1.out nq)
    generalize w1.drewN nq = w2 at HI2 HK2 HB2 ⊢
    clear HI1 HK1 HB1 HW1 c10 c11 k0 k4
    have c10 := (HCB.out.rd HI2.out).kS.cell 10
    have k4 := HK2.out.cell 4
    simp [SP.cells] at c10 k4
    rw [HST.out.1] at c10
    have HI3 := Lib.hid (HCB.out.below HI2.out (Below.refl _ _).drew)
    have HC := Lib.hid (HCB.out.call [] _ [] F w2.drew none 0 HL.out HI3.out Reads.nil_)
    go_still_tail 7, (by kernel_rfl)
    change wpList _ _ _ _ _ w2.drew
    go_wp2_with fail
    rw [HCB.out.enters, Oper.upon_enter]
    refine HC.out.mono ?_
    rintro e w3 ⟨b, G, rfl, hs3, h1, h2⟩
    have HF : Hid (InsPost a (insts a.L a.s a.t ⟨1, rh, ra, rb, rp, ro⟩) I Fin F w (.returned (.tuple #[])) w3) := by
      refine ⟨_, rfl, G, (Stp.of_below HB2.out.drew).trans hs3, ?_⟩
      cases b with
      | true => left; rw [HL.out]; exact h1 rfl
      | false => right; exact h2 rfl
    clear hs3 h1 h2
    go_wp2_with fail
    go_end0
    exact HF.out
  case neg =>
    have d1 : ((ss : Int) == (tt : Int)) = false := by simp; omega
    have hl : insts a.L a.s a.t ⟨1, rh, ra, rb, rp, ro⟩ = [] := by
      unfold insts
      rw [HST.out.1, HST.out.2]
      simp [hst]
    have HF : Hid (∀ n, InsPost a (insts a.L a.s a.t ⟨1, rh, ra, rb, rp, ro⟩) I Fin F w (.returned (.tuple #[])) (w1.drewN n)) := fun n =>
      ⟨_, rfl, F, Stp.of_below (below_drewN HB1.out n), .inl (by rw [hl]; exact HCB.out.below HI1.out (below_drewN (Below.refl _ _) n))⟩
    clear hl
    go_enter Tryd.func45, Tryd.ntmps45
    go_upto_region 1 with fail
    rw [HW1.out]
    go_upto_region 3 with fail
    go_quiet (fail)
    go_wp2_with fail
    go_end0
    exact HF.out _
end
end Go.Proofs.YthakcefgbggkcaaDoor
