/- The table of all calls that were run ahead. -/
import Derived.Test.YtibdcnmaodmghaaGreatDoorEvF
import Derived.Test.YtibdcnmaodmghaaGreatDoorProg
section
namespace Go.Proofs
open Go.RowKit Go.Ev
/-! The evaluator at this program, its contracts given by hand -/
def aL : List AV → AV
  | [] => .nil
  | h :: t => .cons h (aL t)
def jL : List Int → AV
  | [] => .nil
  | h :: t => .cons (.i .i64 h) (jL t)
def iOf : Nat → Int
  | 0 => .negSucc 0
  | n + 1 => .ofNat n
/-- Ints from -1 on, each one more. -/
def iL : List Nat → AV
  | [] => .nil
  | h :: t => .cons (.i .i64 (iOf h)) (iL t)
abbrev Ext := Nat → Option (AV → Tr AO → Nat → FR)
noncomputable def ext0 (f : Nat) : Option (AV → Tr AO → Nat → FR) :=
  bif Nat.beq f 224 then some (sortedK 275) else bif Nat.beq f 323 then some ixbK else bif Nat.beq f 283 then some wideK else
  bif Nat.beq f 163 then some stepK else bif Nat.beq f 278 then some hasK else none
noncomputable def Tryz.evl (e : Ext) : Fns := evs (cFn Tryz.prog) e (fun f => Nat.beq f 156) 300
/-- Calls that were run once, ahead; any other call is run. -/
noncomputable def tabs_ (E : AV → Tr AO → Nat → FR) (l : List TE) (args : AV) (B : Tr AO) (n : Nat) : FR :=
  List.rec (E args B n) (fun t _ ih => @Bool.rec (fun _ => FR) ih (tabRun t args B n) (Nat.beq n t.n)) l
/-- The tables of function f first. -/
noncomputable def extT (f : Nat) (l : List TE) (e : Ext) : Ext := fun g => bif Nat.beq g f then some (tabs_ (Tryz.evl e f) l) else e g
noncomputable def oks (E : Fns) (f : Nat) (l : List TE) : Bool := List.rec true (fun t _ ih => @Bool.rec (fun _ => Bool) false ih (tabOk E f t)) l
theorem oks_at {E : Fns} {f : Nat} : ∀ {l : List TE}, oks E f l = true → ∀ t ∈ l, tabOk E f t = true
  | [], _, t, h => by cases h
  | u :: l, h, t, ht => by
    have h : (@Bool.rec (fun _ => Bool) false (oks E f l) (tabOk E f u)) = true := h
    cases hu : tabOk E f u with
    | false => rw [hu] at h; cases h
    | true =>
      rw [hu] at h
      rcases List.mem_cons.1 ht with rfl | ht
      · exact hu
      · exact oks_at (show oks E f l = true from h) t ht
theorem oks_app {E : Fns} {f : Nat} {l m : List TE} (h1 : oks E f l = true) (h2 : oks E f m = true) : ∀ t ∈ l ++ m, tabOk E f t = true := fun t ht => by
  rcases List.mem_append.1 ht with h | h
  · exact oks_at h1 t h
  · exact oks_at h2 t h
theorem tabs_sound {P : Program} {E E' : Fns} (hE : Sound P E) {f : Nat} (hE' : Sound P E') {l : List TE} (hl : ∀ t ∈ l, tabOk E f t = true) {args : AV} {B : Tr AO} {n : Nat} {v : AV} {B' : Tr AO} {n' : Nat} (h : tabs_ (E' f) l args B n = .ok v B' n') : FnS P f args B n v B' n' := by
  induction l with
  | nil => exact hE' f args B n v B' n' h
  | cons t l ih =>
    have h : (@Bool.rec (fun _ => FR) (tabs_ (E' f) l args B n) (tabRun t args B n) (Nat.beq n t.n)) = .ok v B' n' := h
    cases ht : Nat.beq n t.n with
    | true =>
      rw [ht] at h
      exact tab_sound hE (hl t List.mem_cons_self) h
    | false =>
      rw [ht] at h
      exact ih (fun u hu => hl u (List.mem_cons_of_mem _ hu)) h
end Go.Proofs
end

section
namespace Go.Proofs
open Go.RowKit Go.Ev
set_option maxRecDepth 100000
def Tryz.dcls : List Nat := [1,1,1,1,1,1,1,1,1,1,1,1,1,1,1,1,1,1,1,1,1,1,1,1,1,1,1,1,1,1,1,1,2,1,1,1,1,1,1,1,1,1,1,1,1,1,3,1,4,4,4,4,4,4,4,4,4,4,1,1,1,1,1,1,1,1,1,1,1,1,1,1,1,1,1,1,1,1,1,1,1,1,1,1,1,1,1,1,1,1,1,1,1,1,1,1,1,5,5,5,5,5,6,5,5,7,5,5,5,5,5,5,5,5,5,5,5,5,5,5,5,5,5,1,1,1,1,1,1,1,1,1,1,1,1,1,1,1,1,1,1,1,1,1,1,1,1,1,1,1,1,1,1,1,1,1,1,1,1,1,1,1,1,1,1,1,1,1,1,1,1,1,1,1,1,1,1,1,1,1,1,1,1,1,1,1,1,1,1,1,1,1,1,1,1,1,1,1,1,1,1,1,1,1,1,1,1,1,1,1,1,1,1,1,1,1,1,1,1,1,1,1,1,1,1,1,1,1,1,1,1,1,1,1,1,1,1,1,1,1,1,1,1,1,1,1,1,1,1,1,1,1,1,1,1,1]
def Tryz.drows : List (List Nat) := [[0,2,0,3,4,4,5], [0,2,0,0,0,0,0], [0,0,6,3,0,0,0], [0,0,0,0,4,4,4], [0,0,0,0,4,7,4], [0,0,0,8,0,0,0], [0,0,0,0,4,4,4], [0,0,0,8,0,0,0]]
def Tryz.dacc : List Nat := [0,4,3,2,2,0,1,3]
def Tryz.dids : List Nat := [15293, 15306, 15311, 15318, 15323, 15330, 15337, 15342]
def Tryz.dc : Nat := 11178
def Tryz.dn : Nat := 15344
def Tryz.da : Nat := 15346
def Tryz.lexn : Nat := 22967
end Go.Proofs
end

section
namespace Go.Proofs
open Go.RowKit Go.Ev
set_option maxRecDepth 100000 in
def Tryz.o0 : LO := LO.row 4 false 64 (aL [(.i .u64 (.ofNat 0)), (.i .u64 (.ofNat 2199023255552)), (.i .u64 (.ofNat 0)), (.i .u64 (.ofNat 0)), (.i .u64 (.ofNat 0)), (.i .u64 (.ofNat 576460743713488896)), (.i .u64 (.ofNat 0)), (.i .u64 (.ofNat 0)), (.i .u64 (.ofNat 287948901175001088)), (.i .u64 (.ofNat 0)), (.i .u64 (.ofNat 0)), (.i .u64 (.ofNat 0)), (.i .u64 (.ofNat 4294967296)), (.i .u64 (.ofNat 0)), (.i .u64 (.ofNat 0)), (.i .u64 (.ofNat 0)), (.i .u64 (.ofNat 0)), (.i .u64 (.ofNat 274877906944)), (.i .u64 (.ofNat 0)), (.i .u64 (.ofNat 0)), (.i .u64 (.ofNat 0)), (.i .u64 (.ofNat 576460743713488896)), (.i .u64 (.ofNat 0)), (.i .u64 (.ofNat 0)), (.i .u64 (.ofNat 0)), (.i .u64 (.ofNat 576460743713488896)), (.i .u64 (.ofNat 0)), (.i .u64 (.ofNat 0)), (.i .u64 (.ofNat 287948901175001088)), (.i .u64 (.ofNat 0)), (.i .u64 (.ofNat 0)), (.i .u64 (.ofNat 0)), (.i .u64 (.ofNat 70368744177664)), (.i .u64 (.ofNat 0)), (.i .u64 (.ofNat 0)), (.i .u64 (.ofNat 0)), (.i .u64 (.ofNat 287948901175001088)), (.i .u64 (.ofNat 0)), (.i .u64 (.ofNat 0)), (.i .u64 (.ofNat 0)), (.i .u64 (.ofNat 70368744177664)), (.i .u64 (.ofNat 0)), (.i .u64 (.ofNat 0)), (.i .u64 (.ofNat 0)), (.i .u64 (.ofNat 287948901175001088)), (.i .u64 (.ofNat 0)), (.i .u64 (.ofNat 0)), (.i .u64 (.ofNat 0)), (.i .u64 (.ofNat 287948901175001088)), (.i .u64 (.ofNat 0)), (.i .u64 (.ofNat 0)), (.i .u64 (.ofNat 0)), (.i .u64 (.ofNat 287948901175001088)), (.i .u64 (.ofNat 0)), (.i .u64 (.ofNat 0)), (.i .u64 (.ofNat 0)), (.i .u64 (.ofNat 4294967296)), (.i .u64 (.ofNat 0)), (.i .u64 (.ofNat 0)), (.i .u64 (.ofNat 0)), (.i .u64 (.ofNat 4294967296)), (.i .u64 (.ofNat 0)), (.i .u64 (.ofNat 0)), (.i .u64 (.ofNat 0))])
set_option maxRecDepth 100000 in
def Tryz.o1 : LO := LO.row 256 true 0 (iL [1,1,1,1,1,1,1,1,1,1,1,1,1,1,1,1,1,1,1,1,1,1,1,1,1,1,1,1,1,1,1,1,2,1,1,1,1,1,1,1,1,1,1,1,1,1,3,1,4,4,4,4,4,4,4,4,4,4,1,1,1,1,1,1,1,1,1,1,1,1,1,1,1,1,1,1,1,1,1,1,1,1,1,1,1,1,1,1,1,1,1,1,1,1,1,1,1,5,5,5,5,5,6,5,5,7,5,5,5,5,5,5,5,5,5,5,5,5,5,5,5,5,5,1,1,1,1,1,1,1,1,1,1,1,1,1,1,1,1,1,1,1,1,1,1,1,1,1,1,1,1,1,1,1,1,1,1,1,1,1,1,1,1,1,1,1,1,1,1,1,1,1,1,1,1,1,1,1,1,1,1,1,1,1,1,1,1,1,1,1,1,1,1,1,1,1,1,1,1,1,1,1,1,1,1,1,1,1,1,1,1,1,1,1,1,1,1,1,1,1,1,1,1,1,1,1,1,1,1,1,1,1,1,1,1,1,1,1,1,1,1,1,1,1,1,1,1,1,1,1,1,1,1,1,1,1])
def Tryz.t227_0 : TE :=
  ⟨(aL [(.su 1010 0 16 0)]), 1011,
   [(1010, Tryz.o0)],
   (.sl 1011 0 256 256),
   [(1010, Tryz.o0),
    (1011, Tryz.o1)],
   5365⟩
set_option maxRecDepth 100000 in
def Tryz.o2 : LO := LO.row 4 false 8 (aL [(.i .u64 (.ofNat 0)), (.i .u64 (.ofNat 2199023255552)), (.i .u64 (.ofNat 0)), (.i .u64 (.ofNat 0)), (.i .u64 (.ofNat 0)), (.i .u64 (.ofNat 274877906944)), (.i .u64 (.ofNat 0)), (.i .u64 (.ofNat 0))])
set_option maxRecDepth 100000 in
def Tryz.o3 : LO := LO.row 256 true 0 (iL [1,1,1,1,1,1,1,1,1,1,1,1,1,1,1,1,1,1,1,1,1,1,1,1,1,1,1,1,1,1,1,1,1,1,1,1,1,1,1,1,1,1,1,1,1,1,1,1,1,1,1,1,1,1,1,1,1,1,1,1,1,1,1,1,1,1,1,1,1,1,1,1,1,1,1,1,1,1,1,1,1,1,1,1,1,1,1,1,1,1,1,1,1,1,1,1,1,1,1,1,1,1,2,1,1,3,1,1,1,1,1,1,1,1,1,1,1,1,1,1,1,1,1,1,1,1,1,1,1,1,1,1,1,1,1,1,1,1,1,1,1,1,1,1,1,1,1,1,1,1,1,1,1,1,1,1,1,1,1,1,1,1,1,1,1,1,1,1,1,1,1,1,1,1,1,1,1,1,1,1,1,1,1,1,1,1,1,1,1,1,1,1,1,1,1,1,1,1,1,1,1,1,1,1,1,1,1,1,1,1,1,1,1,1,1,1,1,1,1,1,1,1,1,1,1,1,1,1,1,1,1,1,1,1,1,1,1,1,1,1,1,1,1,1,1,1,1,1,1,1,1,1,1,1,1,1])
def Tryz.t227_1 : TE :=
  ⟨(aL [(.su 15434 0 2 0)]), 15435,
   [(15434, Tryz.o2)],
   (.sl 15435 0 256 256),
   [(15434, Tryz.o2),
    (15435, Tryz.o3)],
   16205⟩
def Tryz.t227_2 : TE :=
  ⟨(aL [(.su 18204 0 2 0)]), 18205,
   [(18204, Tryz.o2)],
   (.sl 18205 0 256 256),
   [(18204, Tryz.o2),
    (18205, Tryz.o3)],
   18975⟩
set_option maxRecDepth 100000 in
def Tryz.o4 : LO := LO.row 1 false 12 (aL [(.su 10565 0 7 0), (.su 10569 0 7 0), (.su 10573 0 7 0), (.su 10577 0 7 0), (.su 10581 0 7 0), (.su 10585 0 7 0), (.su 10589 0 7 0), (.su 10593 0 7 0), (.su 10597 0 7 0), (.su 10601 0 7 0), (.su 10605 0 7 0), (.su 10609 0 7 0)])
def Tryz.t236_0 : TE :=
  ⟨(aL [(.ag (aL [(.sl 10351 0 256 256), (.su 10611 0 12 0), (.su 10344 0 12 0)])), (.su 11176 0 8 0), (.sl 10979 0 12 12)]), 11177,
   [(10344, LO.row 1 false 12 (iL [0,4,3,2,2,4,0,3,2,1,3,3])),
    (10351, Tryz.o1),
    (10565, LO.row 1 false 7 (iL [0,2,0,3,4,4,5])),
    (10569, LO.row 1 false 7 (iL [0,6,0,0,0,0,0])),
    (10573, LO.row 1 false 7 (iL [0,0,7,8,0,0,0])),
    (10577, LO.row 1 false 7 (iL [0,0,0,0,9,9,9])),
    (10581, LO.row 1 false 7 (iL [0,0,0,0,9,10,9])),
    (10585, LO.row 1 false 7 (iL [0,6,0,0,0,0,0])),
    (10589, LO.row 1 false 7 (iL [0,0,0,11,0,0,0])),
    (10593, LO.row 1 false 7 (iL [0,0,7,8,0,0,0])),
    (10597, LO.row 1 false 7 (iL [0,0,0,0,9,9,9])),
    (10601, LO.row 1 false 7 (iL [0,0,0,0,9,9,9])),
    (10605, LO.row 1 false 7 (iL [0,0,0,12,0,0,0])),
    (10609, LO.row 1 false 7 (iL [0,0,0,12,0,0,0])),
    (10611, Tryz.o4),
    (10979, LO.row 12 true 0 (iL [1,2,3,4,5,2,6,3,4,7,8,8])),
    (11176, LO.row 1 false 8 (iL [1,2,3,4,5,7,10,11]))],
   (.sl 11178 0 256 256),
   [(10344, LO.row 1 false 12 (iL [0,4,3,2,2,4,0,3,2,1,3,3])),
    (10351, Tryz.o1),
    (10565, LO.row 1 false 7 (iL [0,2,0,3,4,4,5])),
    (10569, LO.row 1 false 7 (iL [0,6,0,0,0,0,0])),
    (10573, LO.row 1 false 7 (iL [0,0,7,8,0,0,0])),
    (10577, LO.row 1 false 7 (iL [0,0,0,0,9,9,9])),
    (10581, LO.row 1 false 7 (iL [0,0,0,0,9,10,9])),
    (10585, LO.row 1 false 7 (iL [0,6,0,0,0,0,0])),
    (10589, LO.row 1 false 7 (iL [0,0,0,11,0,0,0])),
    (10593, LO.row 1 false 7 (iL [0,0,7,8,0,0,0])),
    (10597, LO.row 1 false 7 (iL [0,0,0,0,9,9,9])),
    (10601, LO.row 1 false 7 (iL [0,0,0,0,9,9,9])),
    (10605, LO.row 1 false 7 (iL [0,0,0,12,0,0,0])),
    (10609, LO.row 1 false 7 (iL [0,0,0,12,0,0,0])),
    (10611, Tryz.o4),
    (10979, LO.row 12 true 0 (iL [1,2,3,4,5,2,6,3,4,7,8,8])),
    (11176, LO.row 1 false 8 (iL [1,2,3,4,5,7,10,11])),
    (11178, Tryz.o1)],
   15276⟩
def Tryz.t236_1 : TE :=
  ⟨(aL [(.ag (aL [(.sl 16441 0 256 256), (.su 16489 0 3 0), (.su 16434 0 3 0)])), (.su 16544 0 3 0), (.sl 16516 0 3 3)]), 16545,
   [(16434, LO.row 1 false 3 (iL [0,0,1])),
    (16441, Tryz.o3),
    (16479, LO.row 1 false 3 (iL [0,0,2])),
    (16483, LO.row 1 false 3 (iL [0,3,0])),
    (16487, LO.row 1 false 3 (iL [0,0,0])),
    (16489, LO.row 1 false 3 (aL [(.su 16479 0 3 0), (.su 16483 0 3 0), (.su 16487 0 3 0)])),
    (16516, LO.row 3 true 0 (iL [1,2,3])),
    (16544, LO.row 1 false 3 (iL [1,2,3]))],
   (.sl 16546 0 256 256),
   [(16434, LO.row 1 false 3 (iL [0,0,1])),
    (16441, Tryz.o3),
    (16479, LO.row 1 false 3 (iL [0,0,2])),
    (16483, LO.row 1 false 3 (iL [0,3,0])),
    (16487, LO.row 1 false 3 (iL [0,0,0])),
    (16489, LO.row 1 false 3 (aL [(.su 16479 0 3 0), (.su 16483 0 3 0), (.su 16487 0 3 0)])),
    (16516, LO.row 3 true 0 (iL [1,2,3])),
    (16544, LO.row 1 false 3 (iL [1,2,3])),
    (16546, Tryz.o3)],
   18084⟩
def Tryz.t236_2 : TE :=
  ⟨(aL [(.ag (aL [(.sl 19211 0 256 256), (.su 19259 0 3 0), (.su 19204 0 3 0)])), (.su 19314 0 3 0), (.sl 19286 0 3 3)]), 19315,
   [(19204, LO.row 1 false 3 (iL [0,0,1])),
    (19211, Tryz.o3),
    (19249, LO.row 1 false 3 (iL [0,0,2])),
    (19253, LO.row 1 false 3 (iL [0,3,0])),
    (19257, LO.row 1 false 3 (iL [0,0,0])),
    (19259, LO.row 1 false 3 (aL [(.su 19249 0 3 0), (.su 19253 0 3 0), (.su 19257 0 3 0)])),
    (19286, LO.row 3 true 0 (iL [1,2,3])),
    (19314, LO.row 1 false 3 (iL [1,2,3]))],
   (.sl 19316 0 256 256),
   [(19204, LO.row 1 false 3 (iL [0,0,1])),
    (19211, Tryz.o3),
    (19249, LO.row 1 false 3 (iL [0,0,2])),
    (19253, LO.row 1 false 3 (iL [0,3,0])),
    (19257, LO.row 1 false 3 (iL [0,0,0])),
    (19259, LO.row 1 false 3 (aL [(.su 19249 0 3 0), (.su 19253 0 3 0), (.su 19257 0 3 0)])),
    (19286, LO.row 3 true 0 (iL [1,2,3])),
    (19314, LO.row 1 false 3 (iL [1,2,3])),
    (19316, Tryz.o3)],
   20854⟩
set_option maxRecDepth 100000 in
def Tryz.o5 : LO := LO.row 7 false 112 (aL [(.i .i64 (.ofNat 0)), (.i .i64 (.ofNat 1)), (.b false), (.i .u64 (.ofNat 0)), (.i .u64 (.ofNat 2199023255552)), (.i .u64 (.ofNat 0)), (.i .u64 (.ofNat 0)), (.i .i64 (.ofNat 0)), (.i .i64 (.ofNat 3)), (.b false), (.i .u64 (.ofNat 0)), (.i .u64 (.ofNat 576460743713488896)), (.i .u64 (.ofNat 0)), (.i .u64 (.ofNat 0)), (.i .i64 (.ofNat 0)), (.i .i64 (.ofNat 5)), (.b false), (.i .u64 (.ofNat 287948901175001088)), (.i .u64 (.ofNat 0)), (.i .u64 (.ofNat 0)), (.i .u64 (.ofNat 0)), (.i .i64 (.ofNat 0)), (.i .i64 (.ofNat 10)), (.b false), (.i .u64 (.ofNat 4294967296)), (.i .u64 (.ofNat 0)), (.i .u64 (.ofNat 0)), (.i .u64 (.ofNat 0)), (.i .i64 (.ofNat 1)), (.i .i64 (.ofNat 2)), (.b false), (.i .u64 (.ofNat 0)), (.i .u64 (.ofNat 274877906944)), (.i .u64 (.ofNat 0)), (.i .u64 (.ofNat 0)), (.i .i64 (.ofNat 3)), (.i .i64 (.ofNat 4)), (.b false), (.i .u64 (.ofNat 0)), (.i .u64 (.ofNat 576460743713488896)), (.i .u64 (.ofNat 0)), (.i .u64 (.ofNat 0)), (.i .i64 (.ofNat 4)), (.i .i64 (.ofNat 4)), (.b false), (.i .u64 (.ofNat 0)), (.i .u64 (.ofNat 576460743713488896)), (.i .u64 (.ofNat 0)), (.i .u64 (.ofNat 0)), (.i .i64 (.ofNat 5)), (.i .i64 (.ofNat 6)), (.b false), (.i .u64 (.ofNat 287948901175001088)), (.i .u64 (.ofNat 0)), (.i .u64 (.ofNat 0)), (.i .u64 (.ofNat 0)), (.i .i64 (.ofNat 5)), (.i .i64 (.ofNat 7)), (.b false), (.i .u64 (.ofNat 70368744177664)), (.i .u64 (.ofNat 0)), (.i .u64 (.ofNat 0)), (.i .u64 (.ofNat 0)), (.i .i64 (.ofNat 6)), (.i .i64 (.ofNat 6)), (.b false), (.i .u64 (.ofNat 287948901175001088)), (.i .u64 (.ofNat 0)), (.i .u64 (.ofNat 0)), (.i .u64 (.ofNat 0)), (.i .i64 (.ofNat 6)), (.i .i64 (.ofNat 7)), (.b false), (.i .u64 (.ofNat 70368744177664)), (.i .u64 (.ofNat 0)), (.i .u64 (.ofNat 0)), (.i .u64 (.ofNat 0)), (.i .i64 (.ofNat 7)), (.i .i64 (.ofNat 8)), (.b false), (.i .u64 (.ofNat 287948901175001088)), (.i .u64 (.ofNat 0)), (.i .u64 (.ofNat 0)), (.i .u64 (.ofNat 0)), (.i .i64 (.ofNat 8)), (.i .i64 (.ofNat 9)), (.b false), (.i .u64 (.ofNat 287948901175001088)), (.i .u64 (.ofNat 0)), (.i .u64 (.ofNat 0)), (.i .u64 (.ofNat 0)), (.i .i64 (.ofNat 9)), (.i .i64 (.ofNat 9)), (.b false), (.i .u64 (.ofNat 287948901175001088)), (.i .u64 (.ofNat 0)), (.i .u64 (.ofNat 0)), (.i .u64 (.ofNat 0)), (.i .i64 (.ofNat 10)), (.i .i64 (.ofNat 11)), (.b false), (.i .u64 (.ofNat 4294967296)), (.i .u64 (.ofNat 0)), (.i .u64 (.ofNat 0)), (.i .u64 (.ofNat 0)), (.i .i64 (.ofNat 11)), (.i .i64 (.ofNat 11)), (.b false), (.i .u64 (.ofNat 4294967296)), (.i .u64 (.ofNat 0)), (.i .u64 (.ofNat 0)), (.i .u64 (.ofNat 0))])
def Tryz.t231_0 : TE :=
  ⟨(aL [(.ag (aL [(.i .i64 (.ofNat 12)), (.i .i64 (.ofNat 0)), (.su 942 0 16 0), (.su 886 0 12 0)])), (.su 5404 0 1 0), (.i .u8 (.ofNat 0))]), 5410,
   [(886, LO.row 1 false 12 (iL [0,0,1,2,2,3,3,0,3,3,4,4])),
    (942, Tryz.o5),
    (5404, LO.row 1 false 1 (aL [(.i .i64 (.ofNat 0))]))],
   .sn,
   [(886, LO.row 1 false 12 (iL [0,0,1,2,2,3,3,0,3,3,4,4])),
    (942, Tryz.o5),
    (5404, LO.row 1 false 1 (aL [(.i .i64 (.ofNat 0))]))],
   5456⟩
def Tryz.t231_1 : TE :=
  ⟨(aL [(.ag (aL [(.i .i64 (.ofNat 12)), (.i .i64 (.ofNat 0)), (.su 942 0 16 0), (.su 886 0 12 0)])), (.su 5404 0 1 0), (.i .u8 (.ofNat 32))]), 5456,
   [(886, LO.row 1 false 12 (iL [0,0,1,2,2,3,3,0,3,3,4,4])),
    (942, Tryz.o5),
    (5404, LO.row 1 false 1 (aL [(.i .i64 (.ofNat 0))]))],
   (.su 5523 0 1 0),
   [(886, LO.row 1 false 12 (iL [0,0,1,2,2,3,3,0,3,3,4,4])),
    (942, Tryz.o5),
    (5404, LO.row 1 false 1 (aL [(.i .i64 (.ofNat 0))])),
    (5523, LO.row 1 false 1 (aL [(.i .i64 (.ofNat 10))]))],
   5524⟩
def Tryz.t231_2 : TE :=
  ⟨(aL [(.ag (aL [(.i .i64 (.ofNat 12)), (.i .i64 (.ofNat 0)), (.su 942 0 16 0), (.su 886 0 12 0)])), (.su 5404 0 1 0), (.i .u8 (.ofNat 46))]), 5530,
   [(886, LO.row 1 false 12 (iL [0,0,1,2,2,3,3,0,3,3,4,4])),
    (942, Tryz.o5),
    (5404, LO.row 1 false 1 (aL [(.i .i64 (.ofNat 0))]))],
   .sn,
   [(886, LO.row 1 false 12 (iL [0,0,1,2,2,3,3,0,3,3,4,4])),
    (942, Tryz.o5),
    (5404, LO.row 1 false 1 (aL [(.i .i64 (.ofNat 0))]))],
   5576⟩
def Tryz.t231_3 : TE :=
  ⟨(aL [(.ag (aL [(.i .i64 (.ofNat 12)), (.i .i64 (.ofNat 0)), (.su 942 0 16 0), (.su 886 0 12 0)])), (.su 5404 0 1 0), (.i .u8 (.ofNat 48))]), 5576,
   [(886, LO.row 1 false 12 (iL [0,0,1,2,2,3,3,0,3,3,4,4])),
    (942, Tryz.o5),
    (5404, LO.row 1 false 1 (aL [(.i .i64 (.ofNat 0))]))],
   (.su 5643 0 1 0),
   [(886, LO.row 1 false 12 (iL [0,0,1,2,2,3,3,0,3,3,4,4])),
    (942, Tryz.o5),
    (5404, LO.row 1 false 1 (aL [(.i .i64 (.ofNat 0))])),
    (5643, LO.row 1 false 1 (aL [(.i .i64 (.ofNat 5))]))],
   5644⟩
def Tryz.t231_4 : TE :=
  ⟨(aL [(.ag (aL [(.i .i64 (.ofNat 12)), (.i .i64 (.ofNat 0)), (.su 942 0 16 0), (.su 886 0 12 0)])), (.su 5404 0 1 0), (.i .u8 (.ofNat 97))]), 5650,
   [(886, LO.row 1 false 12 (iL [0,0,1,2,2,3,3,0,3,3,4,4])),
    (942, Tryz.o5),
    (5404, LO.row 1 false 1 (aL [(.i .i64 (.ofNat 0))]))],
   (.su 5717 0 1 0),
   [(886, LO.row 1 false 12 (iL [0,0,1,2,2,3,3,0,3,3,4,4])),
    (942, Tryz.o5),
    (5404, LO.row 1 false 1 (aL [(.i .i64 (.ofNat 0))])),
    (5717, LO.row 1 false 1 (aL [(.i .i64 (.ofNat 3))]))],
   5718⟩
def Tryz.t231_5 : TE :=
  ⟨(aL [(.ag (aL [(.i .i64 (.ofNat 12)), (.i .i64 (.ofNat 0)), (.su 942 0 16 0), (.su 886 0 12 0)])), (.su 5404 0 1 0), (.i .u8 (.ofNat 102))]), 5724,
   [(886, LO.row 1 false 12 (iL [0,0,1,2,2,3,3,0,3,3,4,4])),
    (942, Tryz.o5),
    (5404, LO.row 1 false 1 (aL [(.i .i64 (.ofNat 0))]))],
   (.su 5791 0 1 0),
   [(886, LO.row 1 false 12 (iL [0,0,1,2,2,3,3,0,3,3,4,4])),
    (942, Tryz.o5),
    (5404, LO.row 1 false 1 (aL [(.i .i64 (.ofNat 0))])),
    (5791, LO.row 1 false 1 (aL [(.i .i64 (.ofNat 3))]))],
   5792⟩
def Tryz.t231_6 : TE :=
  ⟨(aL [(.ag (aL [(.i .i64 (.ofNat 12)), (.i .i64 (.ofNat 0)), (.su 942 0 16 0), (.su 886 0 12 0)])), (.su 5404 0 1 0), (.i .u8 (.ofNat 105))]), 5794,
   [(886, LO.row 1 false 12 (iL [0,0,1,2,2,3,3,0,3,3,4,4])),
    (942, Tryz.o5),
    (5404, LO.row 1 false 1 (aL [(.i .i64 (.ofNat 0))]))],
   (.su 5883 0 2 0),
   [(886, LO.row 1 false 12 (iL [0,0,1,2,2,3,3,0,3,3,4,4])),
    (942, Tryz.o5),
    (5404, LO.row 1 false 1 (aL [(.i .i64 (.ofNat 0))])),
    (5883, LO.row 1 false 2 (aL [(.i .i64 (.ofNat 1)), (.i .i64 (.ofNat 3))]))],
   5884⟩
def Tryz.t231_7 : TE :=
  ⟨(aL [(.ag (aL [(.i .i64 (.ofNat 12)), (.i .i64 (.ofNat 0)), (.su 942 0 16 0), (.su 886 0 12 0)])), (.su 5523 0 1 0), (.i .u8 (.ofNat 0))]), 5900,
   [(886, LO.row 1 false 12 (iL [0,0,1,2,2,3,3,0,3,3,4,4])),
    (942, Tryz.o5),
    (5523, LO.row 1 false 1 (aL [(.i .i64 (.ofNat 10))]))],
   .sn,
   [(886, LO.row 1 false 12 (iL [0,0,1,2,2,3,3,0,3,3,4,4])),
    (942, Tryz.o5),
    (5523, LO.row 1 false 1 (aL [(.i .i64 (.ofNat 10))]))],
   5946⟩
def Tryz.t231_8 : TE :=
  ⟨(aL [(.ag (aL [(.i .i64 (.ofNat 12)), (.i .i64 (.ofNat 0)), (.su 942 0 16 0), (.su 886 0 12 0)])), (.su 5523 0 1 0), (.i .u8 (.ofNat 32))]), 5946,
   [(886, LO.row 1 false 12 (iL [0,0,1,2,2,3,3,0,3,3,4,4])),
    (942, Tryz.o5),
    (5523, LO.row 1 false 1 (aL [(.i .i64 (.ofNat 10))]))],
   (.su 6013 0 1 0),
   [(886, LO.row 1 false 12 (iL [0,0,1,2,2,3,3,0,3,3,4,4])),
    (942, Tryz.o5),
    (5523, LO.row 1 false 1 (aL [(.i .i64 (.ofNat 10))])),
    (6013, LO.row 1 false 1 (aL [(.i .i64 (.ofNat 11))]))],
   6014⟩
def Tryz.t231_9 : TE :=
  ⟨(aL [(.ag (aL [(.i .i64 (.ofNat 12)), (.i .i64 (.ofNat 0)), (.su 942 0 16 0), (.su 886 0 12 0)])), (.su 5523 0 1 0), (.i .u8 (.ofNat 46))]), 6020,
   [(886, LO.row 1 false 12 (iL [0,0,1,2,2,3,3,0,3,3,4,4])),
    (942, Tryz.o5),
    (5523, LO.row 1 false 1 (aL [(.i .i64 (.ofNat 10))]))],
   .sn,
   [(886, LO.row 1 false 12 (iL [0,0,1,2,2,3,3,0,3,3,4,4])),
    (942, Tryz.o5),
    (5523, LO.row 1 false 1 (aL [(.i .i64 (.ofNat 10))]))],
   6066⟩
def Tryz.t231_10 : TE :=
  ⟨(aL [(.ag (aL [(.i .i64 (.ofNat 12)), (.i .i64 (.ofNat 0)), (.su 942 0 16 0), (.su 886 0 12 0)])), (.su 5523 0 1 0), (.i .u8 (.ofNat 48))]), 6066,
   [(886, LO.row 1 false 12 (iL [0,0,1,2,2,3,3,0,3,3,4,4])),
    (942, Tryz.o5),
    (5523, LO.row 1 false 1 (aL [(.i .i64 (.ofNat 10))]))],
   .sn,
   [(886, LO.row 1 false 12 (iL [0,0,1,2,2,3,3,0,3,3,4,4])),
    (942, Tryz.o5),
    (5523, LO.row 1 false 1 (aL [(.i .i64 (.ofNat 10))]))],
   6112⟩
def Tryz.t231_11 : TE :=
  ⟨(aL [(.ag (aL [(.i .i64 (.ofNat 12)), (.i .i64 (.ofNat 0)), (.su 942 0 16 0), (.su 886 0 12 0)])), (.su 5523 0 1 0), (.i .u8 (.ofNat 97))]), 6112,
   [(886, LO.row 1 false 12 (iL [0,0,1,2,2,3,3,0,3,3,4,4])),
    (942, Tryz.o5),
    (5523, LO.row 1 false 1 (aL [(.i .i64 (.ofNat 10))]))],
   .sn,
   [(886, LO.row 1 false 12 (iL [0,0,1,2,2,3,3,0,3,3,4,4])),
    (942, Tryz.o5),
    (5523, LO.row 1 false 1 (aL [(.i .i64 (.ofNat 10))]))],
   6158⟩
def Tryz.t231_12 : TE :=
  ⟨(aL [(.ag (aL [(.i .i64 (.ofNat 12)), (.i .i64 (.ofNat 0)), (.su 942 0 16 0), (.su 886 0 12 0)])), (.su 5523 0 1 0), (.i .u8 (.ofNat 102))]), 6158,
   [(886, LO.row 1 false 12 (iL [0,0,1,2,2,3,3,0,3,3,4,4])),
    (942, Tryz.o5),
    (5523, LO.row 1 false 1 (aL [(.i .i64 (.ofNat 10))]))],
   .sn,
   [(886, LO.row 1 false 12 (iL [0,0,1,2,2,3,3,0,3,3,4,4])),
    (942, Tryz.o5),
    (5523, LO.row 1 false 1 (aL [(.i .i64 (.ofNat 10))]))],
   6204⟩
def Tryz.t231_13 : TE :=
  ⟨(aL [(.ag (aL [(.i .i64 (.ofNat 12)), (.i .i64 (.ofNat 0)), (.su 942 0 16 0), (.su 886 0 12 0)])), (.su 5523 0 1 0), (.i .u8 (.ofNat 105))]), 6204,
   [(886, LO.row 1 false 12 (iL [0,0,1,2,2,3,3,0,3,3,4,4])),
    (942, Tryz.o5),
    (5523, LO.row 1 false 1 (aL [(.i .i64 (.ofNat 10))]))],
   .sn,
   [(886, LO.row 1 false 12 (iL [0,0,1,2,2,3,3,0,3,3,4,4])),
    (942, Tryz.o5),
    (5523, LO.row 1 false 1 (aL [(.i .i64 (.ofNat 10))]))],
   6250⟩
def Tryz.t231_14 : TE :=
  ⟨(aL [(.ag (aL [(.i .i64 (.ofNat 12)), (.i .i64 (.ofNat 0)), (.su 942 0 16 0), (.su 886 0 12 0)])), (.su 5643 0 1 0), (.i .u8 (.ofNat 0))]), 6256,
   [(886, LO.row 1 false 12 (iL [0,0,1,2,2,3,3,0,3,3,4,4])),
    (942, Tryz.o5),
    (5643, LO.row 1 false 1 (aL [(.i .i64 (.ofNat 5))]))],
   .sn,
   [(886, LO.row 1 false 12 (iL [0,0,1,2,2,3,3,0,3,3,4,4])),
    (942, Tryz.o5),
    (5643, LO.row 1 false 1 (aL [(.i .i64 (.ofNat 5))]))],
   6302⟩
def Tryz.t231_15 : TE :=
  ⟨(aL [(.ag (aL [(.i .i64 (.ofNat 12)), (.i .i64 (.ofNat 0)), (.su 942 0 16 0), (.su 886 0 12 0)])), (.su 5643 0 1 0), (.i .u8 (.ofNat 32))]), 6302,
   [(886, LO.row 1 false 12 (iL [0,0,1,2,2,3,3,0,3,3,4,4])),
    (942, Tryz.o5),
    (5643, LO.row 1 false 1 (aL [(.i .i64 (.ofNat 5))]))],
   .sn,
   [(886, LO.row 1 false 12 (iL [0,0,1,2,2,3,3,0,3,3,4,4])),
    (942, Tryz.o5),
    (5643, LO.row 1 false 1 (aL [(.i .i64 (.ofNat 5))]))],
   6348⟩
def Tryz.t231_16 : TE :=
  ⟨(aL [(.ag (aL [(.i .i64 (.ofNat 12)), (.i .i64 (.ofNat 0)), (.su 942 0 16 0), (.su 886 0 12 0)])), (.su 5643 0 1 0), (.i .u8 (.ofNat 46))]), 6348,
   [(886, LO.row 1 false 12 (iL [0,0,1,2,2,3,3,0,3,3,4,4])),
    (942, Tryz.o5),
    (5643, LO.row 1 false 1 (aL [(.i .i64 (.ofNat 5))]))],
   (.su 6415 0 1 0),
   [(886, LO.row 1 false 12 (iL [0,0,1,2,2,3,3,0,3,3,4,4])),
    (942, Tryz.o5),
    (5643, LO.row 1 false 1 (aL [(.i .i64 (.ofNat 5))])),
    (6415, LO.row 1 false 1 (aL [(.i .i64 (.ofNat 7))]))],
   6416⟩
def Tryz.t231_17 : TE :=
  ⟨(aL [(.ag (aL [(.i .i64 (.ofNat 12)), (.i .i64 (.ofNat 0)), (.su 942 0 16 0), (.su 886 0 12 0)])), (.su 5643 0 1 0), (.i .u8 (.ofNat 48))]), 6422,
   [(886, LO.row 1 false 12 (iL [0,0,1,2,2,3,3,0,3,3,4,4])),
    (942, Tryz.o5),
    (5643, LO.row 1 false 1 (aL [(.i .i64 (.ofNat 5))]))],
   (.su 6489 0 1 0),
   [(886, LO.row 1 false 12 (iL [0,0,1,2,2,3,3,0,3,3,4,4])),
    (942, Tryz.o5),
    (5643, LO.row 1 false 1 (aL [(.i .i64 (.ofNat 5))])),
    (6489, LO.row 1 false 1 (aL [(.i .i64 (.ofNat 6))]))],
   6490⟩
def Tryz.t231_18 : TE :=
  ⟨(aL [(.ag (aL [(.i .i64 (.ofNat 12)), (.i .i64 (.ofNat 0)), (.su 942 0 16 0), (.su 886 0 12 0)])), (.su 5643 0 1 0), (.i .u8 (.ofNat 97))]), 6496,
   [(886, LO.row 1 false 12 (iL [0,0,1,2,2,3,3,0,3,3,4,4])),
    (942, Tryz.o5),
    (5643, LO.row 1 false 1 (aL [(.i .i64 (.ofNat 5))]))],
   .sn,
   [(886, LO.row 1 false 12 (iL [0,0,1,2,2,3,3,0,3,3,4,4])),
    (942, Tryz.o5),
    (5643, LO.row 1 false 1 (aL [(.i .i64 (.ofNat 5))]))],
   6542⟩
def Tryz.t231_19 : TE :=
  ⟨(aL [(.ag (aL [(.i .i64 (.ofNat 12)), (.i .i64 (.ofNat 0)), (.su 942 0 16 0), (.su 886 0 12 0)])), (.su 5643 0 1 0), (.i .u8 (.ofNat 102))]), 6542,
   [(886, LO.row 1 false 12 (iL [0,0,1,2,2,3,3,0,3,3,4,4])),
    (942, Tryz.o5),
    (5643, LO.row 1 false 1 (aL [(.i .i64 (.ofNat 5))]))],
   .sn,
   [(886, LO.row 1 false 12 (iL [0,0,1,2,2,3,3,0,3,3,4,4])),
    (942, Tryz.o5),
    (5643, LO.row 1 false 1 (aL [(.i .i64 (.ofNat 5))]))],
   6588⟩
def Tryz.t231_20 : TE :=
  ⟨(aL [(.ag (aL [(.i .i64 (.ofNat 12)), (.i .i64 (.ofNat 0)), (.su 942 0 16 0), (.su 886 0 12 0)])), (.su 5643 0 1 0), (.i .u8 (.ofNat 105))]), 6588,
   [(886, LO.row 1 false 12 (iL [0,0,1,2,2,3,3,0,3,3,4,4])),
    (942, Tryz.o5),
    (5643, LO.row 1 false 1 (aL [(.i .i64 (.ofNat 5))]))],
   .sn,
   [(886, LO.row 1 false 12 (iL [0,0,1,2,2,3,3,0,3,3,4,4])),
    (942, Tryz.o5),
    (5643, LO.row 1 false 1 (aL [(.i .i64 (.ofNat 5))]))],
   6634⟩
def Tryz.t231_21 : TE :=
  ⟨(aL [(.ag (aL [(.i .i64 (.ofNat 12)), (.i .i64 (.ofNat 0)), (.su 942 0 16 0), (.su 886 0 12 0)])), (.su 5717 0 1 0), (.i .u8 (.ofNat 0))]), 6640,
   [(886, LO.row 1 false 12 (iL [0,0,1,2,2,3,3,0,3,3,4,4])),
    (942, Tryz.o5),
    (5717, LO.row 1 false 1 (aL [(.i .i64 (.ofNat 3))]))],
   .sn,
   [(886, LO.row 1 false 12 (iL [0,0,1,2,2,3,3,0,3,3,4,4])),
    (942, Tryz.o5),
    (5717, LO.row 1 false 1 (aL [(.i .i64 (.ofNat 3))]))],
   6686⟩
def Tryz.t231_22 : TE :=
  ⟨(aL [(.ag (aL [(.i .i64 (.ofNat 12)), (.i .i64 (.ofNat 0)), (.su 942 0 16 0), (.su 886 0 12 0)])), (.su 5717 0 1 0), (.i .u8 (.ofNat 32))]), 6686,
   [(886, LO.row 1 false 12 (iL [0,0,1,2,2,3,3,0,3,3,4,4])),
    (942, Tryz.o5),
    (5717, LO.row 1 false 1 (aL [(.i .i64 (.ofNat 3))]))],
   .sn,
   [(886, LO.row 1 false 12 (iL [0,0,1,2,2,3,3,0,3,3,4,4])),
    (942, Tryz.o5),
    (5717, LO.row 1 false 1 (aL [(.i .i64 (.ofNat 3))]))],
   6732⟩
def Tryz.t231_23 : TE :=
  ⟨(aL [(.ag (aL [(.i .i64 (.ofNat 12)), (.i .i64 (.ofNat 0)), (.su 942 0 16 0), (.su 886 0 12 0)])), (.su 5717 0 1 0), (.i .u8 (.ofNat 46))]), 6732,
   [(886, LO.row 1 false 12 (iL [0,0,1,2,2,3,3,0,3,3,4,4])),
    (942, Tryz.o5),
    (5717, LO.row 1 false 1 (aL [(.i .i64 (.ofNat 3))]))],
   .sn,
   [(886, LO.row 1 false 12 (iL [0,0,1,2,2,3,3,0,3,3,4,4])),
    (942, Tryz.o5),
    (5717, LO.row 1 false 1 (aL [(.i .i64 (.ofNat 3))]))],
   6778⟩
def Tryz.t231_24 : TE :=
  ⟨(aL [(.ag (aL [(.i .i64 (.ofNat 12)), (.i .i64 (.ofNat 0)), (.su 942 0 16 0), (.su 886 0 12 0)])), (.su 5717 0 1 0), (.i .u8 (.ofNat 48))]), 6778,
   [(886, LO.row 1 false 12 (iL [0,0,1,2,2,3,3,0,3,3,4,4])),
    (942, Tryz.o5),
    (5717, LO.row 1 false 1 (aL [(.i .i64 (.ofNat 3))]))],
   .sn,
   [(886, LO.row 1 false 12 (iL [0,0,1,2,2,3,3,0,3,3,4,4])),
    (942, Tryz.o5),
    (5717, LO.row 1 false 1 (aL [(.i .i64 (.ofNat 3))]))],
   6824⟩
def Tryz.t231_25 : TE :=
  ⟨(aL [(.ag (aL [(.i .i64 (.ofNat 12)), (.i .i64 (.ofNat 0)), (.su 942 0 16 0), (.su 886 0 12 0)])), (.su 5717 0 1 0), (.i .u8 (.ofNat 97))]), 6824,
   [(886, LO.row 1 false 12 (iL [0,0,1,2,2,3,3,0,3,3,4,4])),
    (942, Tryz.o5),
    (5717, LO.row 1 false 1 (aL [(.i .i64 (.ofNat 3))]))],
   (.su 6891 0 1 0),
   [(886, LO.row 1 false 12 (iL [0,0,1,2,2,3,3,0,3,3,4,4])),
    (942, Tryz.o5),
    (5717, LO.row 1 false 1 (aL [(.i .i64 (.ofNat 3))])),
    (6891, LO.row 1 false 1 (aL [(.i .i64 (.ofNat 4))]))],
   6892⟩
def Tryz.t231_26 : TE :=
  ⟨(aL [(.ag (aL [(.i .i64 (.ofNat 12)), (.i .i64 (.ofNat 0)), (.su 942 0 16 0), (.su 886 0 12 0)])), (.su 5717 0 1 0), (.i .u8 (.ofNat 102))]), 6898,
   [(886, LO.row 1 false 12 (iL [0,0,1,2,2,3,3,0,3,3,4,4])),
    (942, Tryz.o5),
    (5717, LO.row 1 false 1 (aL [(.i .i64 (.ofNat 3))]))],
   (.su 6965 0 1 0),
   [(886, LO.row 1 false 12 (iL [0,0,1,2,2,3,3,0,3,3,4,4])),
    (942, Tryz.o5),
    (5717, LO.row 1 false 1 (aL [(.i .i64 (.ofNat 3))])),
    (6965, LO.row 1 false 1 (aL [(.i .i64 (.ofNat 4))]))],
   6966⟩
def Tryz.t231_27 : TE :=
  ⟨(aL [(.ag (aL [(.i .i64 (.ofNat 12)), (.i .i64 (.ofNat 0)), (.su 942 0 16 0), (.su 886 0 12 0)])), (.su 5717 0 1 0), (.i .u8 (.ofNat 105))]), 6968,
   [(886, LO.row 1 false 12 (iL [0,0,1,2,2,3,3,0,3,3,4,4])),
    (942, Tryz.o5),
    (5717, LO.row 1 false 1 (aL [(.i .i64 (.ofNat 3))]))],
   (.su 7035 0 1 0),
   [(886, LO.row 1 false 12 (iL [0,0,1,2,2,3,3,0,3,3,4,4])),
    (942, Tryz.o5),
    (5717, LO.row 1 false 1 (aL [(.i .i64 (.ofNat 3))])),
    (7035, LO.row 1 false 1 (aL [(.i .i64 (.ofNat 4))]))],
   7036⟩
def Tryz.t231_28 : TE :=
  ⟨(aL [(.ag (aL [(.i .i64 (.ofNat 12)), (.i .i64 (.ofNat 0)), (.su 942 0 16 0), (.su 886 0 12 0)])), (.su 5883 0 2 0), (.i .u8 (.ofNat 0))]), 7044,
   [(886, LO.row 1 false 12 (iL [0,0,1,2,2,3,3,0,3,3,4,4])),
    (942, Tryz.o5),
    (5883, LO.row 1 false 2 (aL [(.i .i64 (.ofNat 1)), (.i .i64 (.ofNat 3))]))],
   .sn,
   [(886, LO.row 1 false 12 (iL [0,0,1,2,2,3,3,0,3,3,4,4])),
    (942, Tryz.o5),
    (5883, LO.row 1 false 2 (aL [(.i .i64 (.ofNat 1)), (.i .i64 (.ofNat 3))]))],
   7110⟩
def Tryz.t231_29 : TE :=
  ⟨(aL [(.ag (aL [(.i .i64 (.ofNat 12)), (.i .i64 (.ofNat 0)), (.su 942 0 16 0), (.su 886 0 12 0)])), (.su 5883 0 2 0), (.i .u8 (.ofNat 32))]), 7110,
   [(886, LO.row 1 false 12 (iL [0,0,1,2,2,3,3,0,3,3,4,4])),
    (942, Tryz.o5),
    (5883, LO.row 1 false 2 (aL [(.i .i64 (.ofNat 1)), (.i .i64 (.ofNat 3))]))],
   .sn,
   [(886, LO.row 1 false 12 (iL [0,0,1,2,2,3,3,0,3,3,4,4])),
    (942, Tryz.o5),
    (5883, LO.row 1 false 2 (aL [(.i .i64 (.ofNat 1)), (.i .i64 (.ofNat 3))]))],
   7176⟩
def Tryz.t231_30 : TE :=
  ⟨(aL [(.ag (aL [(.i .i64 (.ofNat 12)), (.i .i64 (.ofNat 0)), (.su 942 0 16 0), (.su 886 0 12 0)])), (.su 5883 0 2 0), (.i .u8 (.ofNat 46))]), 7176,
   [(886, LO.row 1 false 12 (iL [0,0,1,2,2,3,3,0,3,3,4,4])),
    (942, Tryz.o5),
    (5883, LO.row 1 false 2 (aL [(.i .i64 (.ofNat 1)), (.i .i64 (.ofNat 3))]))],
   .sn,
   [(886, LO.row 1 false 12 (iL [0,0,1,2,2,3,3,0,3,3,4,4])),
    (942, Tryz.o5),
    (5883, LO.row 1 false 2 (aL [(.i .i64 (.ofNat 1)), (.i .i64 (.ofNat 3))]))],
   7242⟩
def Tryz.t231_31 : TE :=
  ⟨(aL [(.ag (aL [(.i .i64 (.ofNat 12)), (.i .i64 (.ofNat 0)), (.su 942 0 16 0), (.su 886 0 12 0)])), (.su 5883 0 2 0), (.i .u8 (.ofNat 48))]), 7242,
   [(886, LO.row 1 false 12 (iL [0,0,1,2,2,3,3,0,3,3,4,4])),
    (942, Tryz.o5),
    (5883, LO.row 1 false 2 (aL [(.i .i64 (.ofNat 1)), (.i .i64 (.ofNat 3))]))],
   .sn,
   [(886, LO.row 1 false 12 (iL [0,0,1,2,2,3,3,0,3,3,4,4])),
    (942, Tryz.o5),
    (5883, LO.row 1 false 2 (aL [(.i .i64 (.ofNat 1)), (.i .i64 (.ofNat 3))]))],
   7308⟩
def Tryz.t231_32 : TE :=
  ⟨(aL [(.ag (aL [(.i .i64 (.ofNat 12)), (.i .i64 (.ofNat 0)), (.su 942 0 16 0), (.su 886 0 12 0)])), (.su 5883 0 2 0), (.i .u8 (.ofNat 97))]), 7308,
   [(886, LO.row 1 false 12 (iL [0,0,1,2,2,3,3,0,3,3,4,4])),
    (942, Tryz.o5),
    (5883, LO.row 1 false 2 (aL [(.i .i64 (.ofNat 1)), (.i .i64 (.ofNat 3))]))],
   (.su 7395 0 1 0),
   [(886, LO.row 1 false 12 (iL [0,0,1,2,2,3,3,0,3,3,4,4])),
    (942, Tryz.o5),
    (5883, LO.row 1 false 2 (aL [(.i .i64 (.ofNat 1)), (.i .i64 (.ofNat 3))])),
    (7395, LO.row 1 false 1 (aL [(.i .i64 (.ofNat 4))]))],
   7396⟩
def Tryz.t231_33 : TE :=
  ⟨(aL [(.ag (aL [(.i .i64 (.ofNat 12)), (.i .i64 (.ofNat 0)), (.su 942 0 16 0), (.su 886 0 12 0)])), (.su 5883 0 2 0), (.i .u8 (.ofNat 102))]), 7398,
   [(886, LO.row 1 false 12 (iL [0,0,1,2,2,3,3,0,3,3,4,4])),
    (942, Tryz.o5),
    (5883, LO.row 1 false 2 (aL [(.i .i64 (.ofNat 1)), (.i .i64 (.ofNat 3))]))],
   (.su 7507 0 2 0),
   [(886, LO.row 1 false 12 (iL [0,0,1,2,2,3,3,0,3,3,4,4])),
    (942, Tryz.o5),
    (5883, LO.row 1 false 2 (aL [(.i .i64 (.ofNat 1)), (.i .i64 (.ofNat 3))])),
    (7507, LO.row 1 false 2 (aL [(.i .i64 (.ofNat 2)), (.i .i64 (.ofNat 4))]))],
   7508⟩
def Tryz.t231_34 : TE :=
  ⟨(aL [(.ag (aL [(.i .i64 (.ofNat 12)), (.i .i64 (.ofNat 0)), (.su 942 0 16 0), (.su 886 0 12 0)])), (.su 5883 0 2 0), (.i .u8 (.ofNat 105))]), 7518,
   [(886, LO.row 1 false 12 (iL [0,0,1,2,2,3,3,0,3,3,4,4])),
    (942, Tryz.o5),
    (5883, LO.row 1 false 2 (aL [(.i .i64 (.ofNat 1)), (.i .i64 (.ofNat 3))]))],
   (.su 7605 0 1 0),
   [(886, LO.row 1 false 12 (iL [0,0,1,2,2,3,3,0,3,3,4,4])),
    (942, Tryz.o5),
    (5883, LO.row 1 false 2 (aL [(.i .i64 (.ofNat 1)), (.i .i64 (.ofNat 3))])),
    (7605, LO.row 1 false 1 (aL [(.i .i64 (.ofNat 4))]))],
   7606⟩
def Tryz.t231_35 : TE :=
  ⟨(aL [(.ag (aL [(.i .i64 (.ofNat 12)), (.i .i64 (.ofNat 0)), (.su 942 0 16 0), (.su 886 0 12 0)])), (.su 6013 0 1 0), (.i .u8 (.ofNat 0))]), 7614,
   [(886, LO.row 1 false 12 (iL [0,0,1,2,2,3,3,0,3,3,4,4])),
    (942, Tryz.o5),
    (6013, LO.row 1 false 1 (aL [(.i .i64 (.ofNat 11))]))],
   .sn,
   [(886, LO.row 1 false 12 (iL [0,0,1,2,2,3,3,0,3,3,4,4])),
    (942, Tryz.o5),
    (6013, LO.row 1 false 1 (aL [(.i .i64 (.ofNat 11))]))],
   7660⟩
def Tryz.t231_36 : TE :=
  ⟨(aL [(.ag (aL [(.i .i64 (.ofNat 12)), (.i .i64 (.ofNat 0)), (.su 942 0 16 0), (.su 886 0 12 0)])), (.su 6013 0 1 0), (.i .u8 (.ofNat 32))]), 7660,
   [(886, LO.row 1 false 12 (iL [0,0,1,2,2,3,3,0,3,3,4,4])),
    (942, Tryz.o5),
    (6013, LO.row 1 false 1 (aL [(.i .i64 (.ofNat 11))]))],
   (.su 7727 0 1 0),
   [(886, LO.row 1 false 12 (iL [0,0,1,2,2,3,3,0,3,3,4,4])),
    (942, Tryz.o5),
    (6013, LO.row 1 false 1 (aL [(.i .i64 (.ofNat 11))])),
    (7727, LO.row 1 false 1 (aL [(.i .i64 (.ofNat 11))]))],
   7728⟩
def Tryz.t231_37 : TE :=
  ⟨(aL [(.ag (aL [(.i .i64 (.ofNat 12)), (.i .i64 (.ofNat 0)), (.su 942 0 16 0), (.su 886 0 12 0)])), (.su 6013 0 1 0), (.i .u8 (.ofNat 46))]), 7730,
   [(886, LO.row 1 false 12 (iL [0,0,1,2,2,3,3,0,3,3,4,4])),
    (942, Tryz.o5),
    (6013, LO.row 1 false 1 (aL [(.i .i64 (.ofNat 11))]))],
   .sn,
   [(886, LO.row 1 false 12 (iL [0,0,1,2,2,3,3,0,3,3,4,4])),
    (942, Tryz.o5),
    (6013, LO.row 1 false 1 (aL [(.i .i64 (.ofNat 11))]))],
   7776⟩
def Tryz.t231_38 : TE :=
  ⟨(aL [(.ag (aL [(.i .i64 (.ofNat 12)), (.i .i64 (.ofNat 0)), (.su 942 0 16 0), (.su 886 0 12 0)])), (.su 6013 0 1 0), (.i .u8 (.ofNat 48))]), 7776,
   [(886, LO.row 1 false 12 (iL [0,0,1,2,2,3,3,0,3,3,4,4])),
    (942, Tryz.o5),
    (6013, LO.row 1 false 1 (aL [(.i .i64 (.ofNat 11))]))],
   .sn,
   [(886, LO.row 1 false 12 (iL [0,0,1,2,2,3,3,0,3,3,4,4])),
    (942, Tryz.o5),
    (6013, LO.row 1 false 1 (aL [(.i .i64 (.ofNat 11))]))],
   7822⟩
def Tryz.t231_39 : TE :=
  ⟨(aL [(.ag (aL [(.i .i64 (.ofNat 12)), (.i .i64 (.ofNat 0)), (.su 942 0 16 0), (.su 886 0 12 0)])), (.su 6013 0 1 0), (.i .u8 (.ofNat 97))]), 7822,
   [(886, LO.row 1 false 12 (iL [0,0,1,2,2,3,3,0,3,3,4,4])),
    (942, Tryz.o5),
    (6013, LO.row 1 false 1 (aL [(.i .i64 (.ofNat 11))]))],
   .sn,
   [(886, LO.row 1 false 12 (iL [0,0,1,2,2,3,3,0,3,3,4,4])),
    (942, Tryz.o5),
    (6013, LO.row 1 false 1 (aL [(.i .i64 (.ofNat 11))]))],
   7868⟩
def Tryz.t231_40 : TE :=
  ⟨(aL [(.ag (aL [(.i .i64 (.ofNat 12)), (.i .i64 (.ofNat 0)), (.su 942 0 16 0), (.su 886 0 12 0)])), (.su 6013 0 1 0), (.i .u8 (.ofNat 102))]), 7868,
   [(886, LO.row 1 false 12 (iL [0,0,1,2,2,3,3,0,3,3,4,4])),
    (942, Tryz.o5),
    (6013, LO.row 1 false 1 (aL [(.i .i64 (.ofNat 11))]))],
   .sn,
   [(886, LO.row 1 false 12 (iL [0,0,1,2,2,3,3,0,3,3,4,4])),
    (942, Tryz.o5),
    (6013, LO.row 1 false 1 (aL [(.i .i64 (.ofNat 11))]))],
   7914⟩
def Tryz.t231_41 : TE :=
  ⟨(aL [(.ag (aL [(.i .i64 (.ofNat 12)), (.i .i64 (.ofNat 0)), (.su 942 0 16 0), (.su 886 0 12 0)])), (.su 6013 0 1 0), (.i .u8 (.ofNat 105))]), 7914,
   [(886, LO.row 1 false 12 (iL [0,0,1,2,2,3,3,0,3,3,4,4])),
    (942, Tryz.o5),
    (6013, LO.row 1 false 1 (aL [(.i .i64 (.ofNat 11))]))],
   .sn,
   [(886, LO.row 1 false 12 (iL [0,0,1,2,2,3,3,0,3,3,4,4])),
    (942, Tryz.o5),
    (6013, LO.row 1 false 1 (aL [(.i .i64 (.ofNat 11))]))],
   7960⟩
def Tryz.t231_42 : TE :=
  ⟨(aL [(.ag (aL [(.i .i64 (.ofNat 12)), (.i .i64 (.ofNat 0)), (.su 942 0 16 0), (.su 886 0 12 0)])), (.su 6415 0 1 0), (.i .u8 (.ofNat 0))]), 7966,
   [(886, LO.row 1 false 12 (iL [0,0,1,2,2,3,3,0,3,3,4,4])),
    (942, Tryz.o5),
    (6415, LO.row 1 false 1 (aL [(.i .i64 (.ofNat 7))]))],
   .sn,
   [(886, LO.row 1 false 12 (iL [0,0,1,2,2,3,3,0,3,3,4,4])),
    (942, Tryz.o5),
    (6415, LO.row 1 false 1 (aL [(.i .i64 (.ofNat 7))]))],
   8012⟩
def Tryz.t231_43 : TE :=
  ⟨(aL [(.ag (aL [(.i .i64 (.ofNat 12)), (.i .i64 (.ofNat 0)), (.su 942 0 16 0), (.su 886 0 12 0)])), (.su 6415 0 1 0), (.i .u8 (.ofNat 32))]), 8012,
   [(886, LO.row 1 false 12 (iL [0,0,1,2,2,3,3,0,3,3,4,4])),
    (942, Tryz.o5),
    (6415, LO.row 1 false 1 (aL [(.i .i64 (.ofNat 7))]))],
   .sn,
   [(886, LO.row 1 false 12 (iL [0,0,1,2,2,3,3,0,3,3,4,4])),
    (942, Tryz.o5),
    (6415, LO.row 1 false 1 (aL [(.i .i64 (.ofNat 7))]))],
   8058⟩
def Tryz.t231_44 : TE :=
  ⟨(aL [(.ag (aL [(.i .i64 (.ofNat 12)), (.i .i64 (.ofNat 0)), (.su 942 0 16 0), (.su 886 0 12 0)])), (.su 6415 0 1 0), (.i .u8 (.ofNat 46))]), 8058,
   [(886, LO.row 1 false 12 (iL [0,0,1,2,2,3,3,0,3,3,4,4])),
    (942, Tryz.o5),
    (6415, LO.row 1 false 1 (aL [(.i .i64 (.ofNat 7))]))],
   .sn,
   [(886, LO.row 1 false 12 (iL [0,0,1,2,2,3,3,0,3,3,4,4])),
    (942, Tryz.o5),
    (6415, LO.row 1 false 1 (aL [(.i .i64 (.ofNat 7))]))],
   8104⟩
def Tryz.t231_45 : TE :=
  ⟨(aL [(.ag (aL [(.i .i64 (.ofNat 12)), (.i .i64 (.ofNat 0)), (.su 942 0 16 0), (.su 886 0 12 0)])), (.su 6415 0 1 0), (.i .u8 (.ofNat 48))]), 8104,
   [(886, LO.row 1 false 12 (iL [0,0,1,2,2,3,3,0,3,3,4,4])),
    (942, Tryz.o5),
    (6415, LO.row 1 false 1 (aL [(.i .i64 (.ofNat 7))]))],
   (.su 8171 0 1 0),
   [(886, LO.row 1 false 12 (iL [0,0,1,2,2,3,3,0,3,3,4,4])),
    (942, Tryz.o5),
    (6415, LO.row 1 false 1 (aL [(.i .i64 (.ofNat 7))])),
    (8171, LO.row 1 false 1 (aL [(.i .i64 (.ofNat 8))]))],
   8172⟩
def Tryz.t231_46 : TE :=
  ⟨(aL [(.ag (aL [(.i .i64 (.ofNat 12)), (.i .i64 (.ofNat 0)), (.su 942 0 16 0), (.su 886 0 12 0)])), (.su 6415 0 1 0), (.i .u8 (.ofNat 97))]), 8178,
   [(886, LO.row 1 false 12 (iL [0,0,1,2,2,3,3,0,3,3,4,4])),
    (942, Tryz.o5),
    (6415, LO.row 1 false 1 (aL [(.i .i64 (.ofNat 7))]))],
   .sn,
   [(886, LO.row 1 false 12 (iL [0,0,1,2,2,3,3,0,3,3,4,4])),
    (942, Tryz.o5),
    (6415, LO.row 1 false 1 (aL [(.i .i64 (.ofNat 7))]))],
   8224⟩
def Tryz.t231_47 : TE :=
  ⟨(aL [(.ag (aL [(.i .i64 (.ofNat 12)), (.i .i64 (.ofNat 0)), (.su 942 0 16 0), (.su 886 0 12 0)])), (.su 6415 0 1 0), (.i .u8 (.ofNat 102))]), 8224,
   [(886, LO.row 1 false 12 (iL [0,0,1,2,2,3,3,0,3,3,4,4])),
    (942, Tryz.o5),
    (6415, LO.row 1 false 1 (aL [(.i .i64 (.ofNat 7))]))],
   .sn,
   [(886, LO.row 1 false 12 (iL [0,0,1,2,2,3,3,0,3,3,4,4])),
    (942, Tryz.o5),
    (6415, LO.row 1 false 1 (aL [(.i .i64 (.ofNat 7))]))],
   8270⟩
def Tryz.t231_48 : TE :=
  ⟨(aL [(.ag (aL [(.i .i64 (.ofNat 12)), (.i .i64 (.ofNat 0)), (.su 942 0 16 0), (.su 886 0 12 0)])), (.su 6415 0 1 0), (.i .u8 (.ofNat 105))]), 8270,
   [(886, LO.row 1 false 12 (iL [0,0,1,2,2,3,3,0,3,3,4,4])),
    (942, Tryz.o5),
    (6415, LO.row 1 false 1 (aL [(.i .i64 (.ofNat 7))]))],
   .sn,
   [(886, LO.row 1 false 12 (iL [0,0,1,2,2,3,3,0,3,3,4,4])),
    (942, Tryz.o5),
    (6415, LO.row 1 false 1 (aL [(.i .i64 (.ofNat 7))]))],
   8316⟩
def Tryz.t231_49 : TE :=
  ⟨(aL [(.ag (aL [(.i .i64 (.ofNat 12)), (.i .i64 (.ofNat 0)), (.su 942 0 16 0), (.su 886 0 12 0)])), (.su 6489 0 1 0), (.i .u8 (.ofNat 0))]), 8322,
   [(886, LO.row 1 false 12 (iL [0,0,1,2,2,3,3,0,3,3,4,4])),
    (942, Tryz.o5),
    (6489, LO.row 1 false 1 (aL [(.i .i64 (.ofNat 6))]))],
   .sn,
   [(886, LO.row 1 false 12 (iL [0,0,1,2,2,3,3,0,3,3,4,4])),
    (942, Tryz.o5),
    (6489, LO.row 1 false 1 (aL [(.i .i64 (.ofNat 6))]))],
   8368⟩
def Tryz.t231_50 : TE :=
  ⟨(aL [(.ag (aL [(.i .i64 (.ofNat 12)), (.i .i64 (.ofNat 0)), (.su 942 0 16 0), (.su 886 0 12 0)])), (.su 6489 0 1 0), (.i .u8 (.ofNat 32))]), 8368,
   [(886, LO.row 1 false 12 (iL [0,0,1,2,2,3,3,0,3,3,4,4])),
    (942, Tryz.o5),
    (6489, LO.row 1 false 1 (aL [(.i .i64 (.ofNat 6))]))],
   .sn,
   [(886, LO.row 1 false 12 (iL [0,0,1,2,2,3,3,0,3,3,4,4])),
    (942, Tryz.o5),
    (6489, LO.row 1 false 1 (aL [(.i .i64 (.ofNat 6))]))],
   8414⟩
def Tryz.t231_51 : TE :=
  ⟨(aL [(.ag (aL [(.i .i64 (.ofNat 12)), (.i .i64 (.ofNat 0)), (.su 942 0 16 0), (.su 886 0 12 0)])), (.su 6489 0 1 0), (.i .u8 (.ofNat 46))]), 8414,
   [(886, LO.row 1 false 12 (iL [0,0,1,2,2,3,3,0,3,3,4,4])),
    (942, Tryz.o5),
    (6489, LO.row 1 false 1 (aL [(.i .i64 (.ofNat 6))]))],
   (.su 8481 0 1 0),
   [(886, LO.row 1 false 12 (iL [0,0,1,2,2,3,3,0,3,3,4,4])),
    (942, Tryz.o5),
    (6489, LO.row 1 false 1 (aL [(.i .i64 (.ofNat 6))])),
    (8481, LO.row 1 false 1 (aL [(.i .i64 (.ofNat 7))]))],
   8482⟩
def Tryz.t231_52 : TE :=
  ⟨(aL [(.ag (aL [(.i .i64 (.ofNat 12)), (.i .i64 (.ofNat 0)), (.su 942 0 16 0), (.su 886 0 12 0)])), (.su 6489 0 1 0), (.i .u8 (.ofNat 48))]), 8484,
   [(886, LO.row 1 false 12 (iL [0,0,1,2,2,3,3,0,3,3,4,4])),
    (942, Tryz.o5),
    (6489, LO.row 1 false 1 (aL [(.i .i64 (.ofNat 6))]))],
   (.su 8551 0 1 0),
   [(886, LO.row 1 false 12 (iL [0,0,1,2,2,3,3,0,3,3,4,4])),
    (942, Tryz.o5),
    (6489, LO.row 1 false 1 (aL [(.i .i64 (.ofNat 6))])),
    (8551, LO.row 1 false 1 (aL [(.i .i64 (.ofNat 6))]))],
   8552⟩
def Tryz.t231_53 : TE :=
  ⟨(aL [(.ag (aL [(.i .i64 (.ofNat 12)), (.i .i64 (.ofNat 0)), (.su 942 0 16 0), (.su 886 0 12 0)])), (.su 6489 0 1 0), (.i .u8 (.ofNat 97))]), 8554,
   [(886, LO.row 1 false 12 (iL [0,0,1,2,2,3,3,0,3,3,4,4])),
    (942, Tryz.o5),
    (6489, LO.row 1 false 1 (aL [(.i .i64 (.ofNat 6))]))],
   .sn,
   [(886, LO.row 1 false 12 (iL [0,0,1,2,2,3,3,0,3,3,4,4])),
    (942, Tryz.o5),
    (6489, LO.row 1 false 1 (aL [(.i .i64 (.ofNat 6))]))],
   8600⟩
def Tryz.t231_54 : TE :=
  ⟨(aL [(.ag (aL [(.i .i64 (.ofNat 12)), (.i .i64 (.ofNat 0)), (.su 942 0 16 0), (.su 886 0 12 0)])), (.su 6489 0 1 0), (.i .u8 (.ofNat 102))]), 8600,
   [(886, LO.row 1 false 12 (iL [0,0,1,2,2,3,3,0,3,3,4,4])),
    (942, Tryz.o5),
    (6489, LO.row 1 false 1 (aL [(.i .i64 (.ofNat 6))]))],
   .sn,
   [(886, LO.row 1 false 12 (iL [0,0,1,2,2,3,3,0,3,3,4,4])),
    (942, Tryz.o5),
    (6489, LO.row 1 false 1 (aL [(.i .i64 (.ofNat 6))]))],
   8646⟩
def Tryz.t231_55 : TE :=
  ⟨(aL [(.ag (aL [(.i .i64 (.ofNat 12)), (.i .i64 (.ofNat 0)), (.su 942 0 16 0), (.su 886 0 12 0)])), (.su 6489 0 1 0), (.i .u8 (.ofNat 105))]), 8646,
   [(886, LO.row 1 false 12 (iL [0,0,1,2,2,3,3,0,3,3,4,4])),
    (942, Tryz.o5),
    (6489, LO.row 1 false 1 (aL [(.i .i64 (.ofNat 6))]))],
   .sn,
   [(886, LO.row 1 false 12 (iL [0,0,1,2,2,3,3,0,3,3,4,4])),
    (942, Tryz.o5),
    (6489, LO.row 1 false 1 (aL [(.i .i64 (.ofNat 6))]))],
   8692⟩
def Tryz.t231_56 : TE :=
  ⟨(aL [(.ag (aL [(.i .i64 (.ofNat 12)), (.i .i64 (.ofNat 0)), (.su 942 0 16 0), (.su 886 0 12 0)])), (.su 6891 0 1 0), (.i .u8 (.ofNat 0))]), 8698,
   [(886, LO.row 1 false 12 (iL [0,0,1,2,2,3,3,0,3,3,4,4])),
    (942, Tryz.o5),
    (6891, LO.row 1 false 1 (aL [(.i .i64 (.ofNat 4))]))],
   .sn,
   [(886, LO.row 1 false 12 (iL [0,0,1,2,2,3,3,0,3,3,4,4])),
    (942, Tryz.o5),
    (6891, LO.row 1 false 1 (aL [(.i .i64 (.ofNat 4))]))],
   8744⟩
def Tryz.t231_57 : TE :=
  ⟨(aL [(.ag (aL [(.i .i64 (.ofNat 12)), (.i .i64 (.ofNat 0)), (.su 942 0 16 0), (.su 886 0 12 0)])), (.su 6891 0 1 0), (.i .u8 (.ofNat 32))]), 8744,
   [(886, LO.row 1 false 12 (iL [0,0,1,2,2,3,3,0,3,3,4,4])),
    (942, Tryz.o5),
    (6891, LO.row 1 false 1 (aL [(.i .i64 (.ofNat 4))]))],
   .sn,
   [(886, LO.row 1 false 12 (iL [0,0,1,2,2,3,3,0,3,3,4,4])),
    (942, Tryz.o5),
    (6891, LO.row 1 false 1 (aL [(.i .i64 (.ofNat 4))]))],
   8790⟩
def Tryz.t231_58 : TE :=
  ⟨(aL [(.ag (aL [(.i .i64 (.ofNat 12)), (.i .i64 (.ofNat 0)), (.su 942 0 16 0), (.su 886 0 12 0)])), (.su 6891 0 1 0), (.i .u8 (.ofNat 46))]), 8790,
   [(886, LO.row 1 false 12 (iL [0,0,1,2,2,3,3,0,3,3,4,4])),
    (942, Tryz.o5),
    (6891, LO.row 1 false 1 (aL [(.i .i64 (.ofNat 4))]))],
   .sn,
   [(886, LO.row 1 false 12 (iL [0,0,1,2,2,3,3,0,3,3,4,4])),
    (942, Tryz.o5),
    (6891, LO.row 1 false 1 (aL [(.i .i64 (.ofNat 4))]))],
   8836⟩
def Tryz.t231_59 : TE :=
  ⟨(aL [(.ag (aL [(.i .i64 (.ofNat 12)), (.i .i64 (.ofNat 0)), (.su 942 0 16 0), (.su 886 0 12 0)])), (.su 6891 0 1 0), (.i .u8 (.ofNat 48))]), 8836,
   [(886, LO.row 1 false 12 (iL [0,0,1,2,2,3,3,0,3,3,4,4])),
    (942, Tryz.o5),
    (6891, LO.row 1 false 1 (aL [(.i .i64 (.ofNat 4))]))],
   .sn,
   [(886, LO.row 1 false 12 (iL [0,0,1,2,2,3,3,0,3,3,4,4])),
    (942, Tryz.o5),
    (6891, LO.row 1 false 1 (aL [(.i .i64 (.ofNat 4))]))],
   8882⟩
def Tryz.t231_60 : TE :=
  ⟨(aL [(.ag (aL [(.i .i64 (.ofNat 12)), (.i .i64 (.ofNat 0)), (.su 942 0 16 0), (.su 886 0 12 0)])), (.su 6891 0 1 0), (.i .u8 (.ofNat 97))]), 8882,
   [(886, LO.row 1 false 12 (iL [0,0,1,2,2,3,3,0,3,3,4,4])),
    (942, Tryz.o5),
    (6891, LO.row 1 false 1 (aL [(.i .i64 (.ofNat 4))]))],
   (.su 8949 0 1 0),
   [(886, LO.row 1 false 12 (iL [0,0,1,2,2,3,3,0,3,3,4,4])),
    (942, Tryz.o5),
    (6891, LO.row 1 false 1 (aL [(.i .i64 (.ofNat 4))])),
    (8949, LO.row 1 false 1 (aL [(.i .i64 (.ofNat 4))]))],
   8950⟩
def Tryz.t231_61 : TE :=
  ⟨(aL [(.ag (aL [(.i .i64 (.ofNat 12)), (.i .i64 (.ofNat 0)), (.su 942 0 16 0), (.su 886 0 12 0)])), (.su 6891 0 1 0), (.i .u8 (.ofNat 102))]), 8952,
   [(886, LO.row 1 false 12 (iL [0,0,1,2,2,3,3,0,3,3,4,4])),
    (942, Tryz.o5),
    (6891, LO.row 1 false 1 (aL [(.i .i64 (.ofNat 4))]))],
   (.su 9019 0 1 0),
   [(886, LO.row 1 false 12 (iL [0,0,1,2,2,3,3,0,3,3,4,4])),
    (942, Tryz.o5),
    (6891, LO.row 1 false 1 (aL [(.i .i64 (.ofNat 4))])),
    (9019, LO.row 1 false 1 (aL [(.i .i64 (.ofNat 4))]))],
   9020⟩
def Tryz.t231_62 : TE :=
  ⟨(aL [(.ag (aL [(.i .i64 (.ofNat 12)), (.i .i64 (.ofNat 0)), (.su 942 0 16 0), (.su 886 0 12 0)])), (.su 6891 0 1 0), (.i .u8 (.ofNat 105))]), 9022,
   [(886, LO.row 1 false 12 (iL [0,0,1,2,2,3,3,0,3,3,4,4])),
    (942, Tryz.o5),
    (6891, LO.row 1 false 1 (aL [(.i .i64 (.ofNat 4))]))],
   (.su 9089 0 1 0),
   [(886, LO.row 1 false 12 (iL [0,0,1,2,2,3,3,0,3,3,4,4])),
    (942, Tryz.o5),
    (6891, LO.row 1 false 1 (aL [(.i .i64 (.ofNat 4))])),
    (9089, LO.row 1 false 1 (aL [(.i .i64 (.ofNat 4))]))],
   9090⟩
def Tryz.t231_63 : TE :=
  ⟨(aL [(.ag (aL [(.i .i64 (.ofNat 12)), (.i .i64 (.ofNat 0)), (.su 942 0 16 0), (.su 886 0 12 0)])), (.su 7507 0 2 0), (.i .u8 (.ofNat 0))]), 9098,
   [(886, LO.row 1 false 12 (iL [0,0,1,2,2,3,3,0,3,3,4,4])),
    (942, Tryz.o5),
    (7507, LO.row 1 false 2 (aL [(.i .i64 (.ofNat 2)), (.i .i64 (.ofNat 4))]))],
   .sn,
   [(886, LO.row 1 false 12 (iL [0,0,1,2,2,3,3,0,3,3,4,4])),
    (942, Tryz.o5),
    (7507, LO.row 1 false 2 (aL [(.i .i64 (.ofNat 2)), (.i .i64 (.ofNat 4))]))],
   9164⟩
def Tryz.t231_64 : TE :=
  ⟨(aL [(.ag (aL [(.i .i64 (.ofNat 12)), (.i .i64 (.ofNat 0)), (.su 942 0 16 0), (.su 886 0 12 0)])), (.su 7507 0 2 0), (.i .u8 (.ofNat 32))]), 9164,
   [(886, LO.row 1 false 12 (iL [0,0,1,2,2,3,3,0,3,3,4,4])),
    (942, Tryz.o5),
    (7507, LO.row 1 false 2 (aL [(.i .i64 (.ofNat 2)), (.i .i64 (.ofNat 4))]))],
   .sn,
   [(886, LO.row 1 false 12 (iL [0,0,1,2,2,3,3,0,3,3,4,4])),
    (942, Tryz.o5),
    (7507, LO.row 1 false 2 (aL [(.i .i64 (.ofNat 2)), (.i .i64 (.ofNat 4))]))],
   9230⟩
def Tryz.t231_65 : TE :=
  ⟨(aL [(.ag (aL [(.i .i64 (.ofNat 12)), (.i .i64 (.ofNat 0)), (.su 942 0 16 0), (.su 886 0 12 0)])), (.su 7507 0 2 0), (.i .u8 (.ofNat 46))]), 9230,
   [(886, LO.row 1 false 12 (iL [0,0,1,2,2,3,3,0,3,3,4,4])),
    (942, Tryz.o5),
    (7507, LO.row 1 false 2 (aL [(.i .i64 (.ofNat 2)), (.i .i64 (.ofNat 4))]))],
   .sn,
   [(886, LO.row 1 false 12 (iL [0,0,1,2,2,3,3,0,3,3,4,4])),
    (942, Tryz.o5),
    (7507, LO.row 1 false 2 (aL [(.i .i64 (.ofNat 2)), (.i .i64 (.ofNat 4))]))],
   9296⟩
def Tryz.t231_66 : TE :=
  ⟨(aL [(.ag (aL [(.i .i64 (.ofNat 12)), (.i .i64 (.ofNat 0)), (.su 942 0 16 0), (.su 886 0 12 0)])), (.su 7507 0 2 0), (.i .u8 (.ofNat 48))]), 9296,
   [(886, LO.row 1 false 12 (iL [0,0,1,2,2,3,3,0,3,3,4,4])),
    (942, Tryz.o5),
    (7507, LO.row 1 false 2 (aL [(.i .i64 (.ofNat 2)), (.i .i64 (.ofNat 4))]))],
   .sn,
   [(886, LO.row 1 false 12 (iL [0,0,1,2,2,3,3,0,3,3,4,4])),
    (942, Tryz.o5),
    (7507, LO.row 1 false 2 (aL [(.i .i64 (.ofNat 2)), (.i .i64 (.ofNat 4))]))],
   9362⟩
def Tryz.t231_67 : TE :=
  ⟨(aL [(.ag (aL [(.i .i64 (.ofNat 12)), (.i .i64 (.ofNat 0)), (.su 942 0 16 0), (.su 886 0 12 0)])), (.su 7507 0 2 0), (.i .u8 (.ofNat 97))]), 9362,
   [(886, LO.row 1 false 12 (iL [0,0,1,2,2,3,3,0,3,3,4,4])),
    (942, Tryz.o5),
    (7507, LO.row 1 false 2 (aL [(.i .i64 (.ofNat 2)), (.i .i64 (.ofNat 4))]))],
   (.su 9449 0 1 0),
   [(886, LO.row 1 false 12 (iL [0,0,1,2,2,3,3,0,3,3,4,4])),
    (942, Tryz.o5),
    (7507, LO.row 1 false 2 (aL [(.i .i64 (.ofNat 2)), (.i .i64 (.ofNat 4))])),
    (9449, LO.row 1 false 1 (aL [(.i .i64 (.ofNat 4))]))],
   9450⟩
def Tryz.t231_68 : TE :=
  ⟨(aL [(.ag (aL [(.i .i64 (.ofNat 12)), (.i .i64 (.ofNat 0)), (.su 942 0 16 0), (.su 886 0 12 0)])), (.su 7507 0 2 0), (.i .u8 (.ofNat 102))]), 9452,
   [(886, LO.row 1 false 12 (iL [0,0,1,2,2,3,3,0,3,3,4,4])),
    (942, Tryz.o5),
    (7507, LO.row 1 false 2 (aL [(.i .i64 (.ofNat 2)), (.i .i64 (.ofNat 4))]))],
   (.su 9539 0 1 0),
   [(886, LO.row 1 false 12 (iL [0,0,1,2,2,3,3,0,3,3,4,4])),
    (942, Tryz.o5),
    (7507, LO.row 1 false 2 (aL [(.i .i64 (.ofNat 2)), (.i .i64 (.ofNat 4))])),
    (9539, LO.row 1 false 1 (aL [(.i .i64 (.ofNat 4))]))],
   9540⟩
def Tryz.t231_69 : TE :=
  ⟨(aL [(.ag (aL [(.i .i64 (.ofNat 12)), (.i .i64 (.ofNat 0)), (.su 942 0 16 0), (.su 886 0 12 0)])), (.su 7507 0 2 0), (.i .u8 (.ofNat 105))]), 9542,
   [(886, LO.row 1 false 12 (iL [0,0,1,2,2,3,3,0,3,3,4,4])),
    (942, Tryz.o5),
    (7507, LO.row 1 false 2 (aL [(.i .i64 (.ofNat 2)), (.i .i64 (.ofNat 4))]))],
   (.su 9629 0 1 0),
   [(886, LO.row 1 false 12 (iL [0,0,1,2,2,3,3,0,3,3,4,4])),
    (942, Tryz.o5),
    (7507, LO.row 1 false 2 (aL [(.i .i64 (.ofNat 2)), (.i .i64 (.ofNat 4))])),
    (9629, LO.row 1 false 1 (aL [(.i .i64 (.ofNat 4))]))],
   9630⟩
def Tryz.t231_70 : TE :=
  ⟨(aL [(.ag (aL [(.i .i64 (.ofNat 12)), (.i .i64 (.ofNat 0)), (.su 942 0 16 0), (.su 886 0 12 0)])), (.su 8171 0 1 0), (.i .u8 (.ofNat 0))]), 9638,
   [(886, LO.row 1 false 12 (iL [0,0,1,2,2,3,3,0,3,3,4,4])),
    (942, Tryz.o5),
    (8171, LO.row 1 false 1 (aL [(.i .i64 (.ofNat 8))]))],
   .sn,
   [(886, LO.row 1 false 12 (iL [0,0,1,2,2,3,3,0,3,3,4,4])),
    (942, Tryz.o5),
    (8171, LO.row 1 false 1 (aL [(.i .i64 (.ofNat 8))]))],
   9684⟩
def Tryz.t231_71 : TE :=
  ⟨(aL [(.ag (aL [(.i .i64 (.ofNat 12)), (.i .i64 (.ofNat 0)), (.su 942 0 16 0), (.su 886 0 12 0)])), (.su 8171 0 1 0), (.i .u8 (.ofNat 32))]), 9684,
   [(886, LO.row 1 false 12 (iL [0,0,1,2,2,3,3,0,3,3,4,4])),
    (942, Tryz.o5),
    (8171, LO.row 1 false 1 (aL [(.i .i64 (.ofNat 8))]))],
   .sn,
   [(886, LO.row 1 false 12 (iL [0,0,1,2,2,3,3,0,3,3,4,4])),
    (942, Tryz.o5),
    (8171, LO.row 1 false 1 (aL [(.i .i64 (.ofNat 8))]))],
   9730⟩
def Tryz.t231_72 : TE :=
  ⟨(aL [(.ag (aL [(.i .i64 (.ofNat 12)), (.i .i64 (.ofNat 0)), (.su 942 0 16 0), (.su 886 0 12 0)])), (.su 8171 0 1 0), (.i .u8 (.ofNat 46))]), 9730,
   [(886, LO.row 1 false 12 (iL [0,0,1,2,2,3,3,0,3,3,4,4])),
    (942, Tryz.o5),
    (8171, LO.row 1 false 1 (aL [(.i .i64 (.ofNat 8))]))],
   .sn,
   [(886, LO.row 1 false 12 (iL [0,0,1,2,2,3,3,0,3,3,4,4])),
    (942, Tryz.o5),
    (8171, LO.row 1 false 1 (aL [(.i .i64 (.ofNat 8))]))],
   9776⟩
def Tryz.t231_73 : TE :=
  ⟨(aL [(.ag (aL [(.i .i64 (.ofNat 12)), (.i .i64 (.ofNat 0)), (.su 942 0 16 0), (.su 886 0 12 0)])), (.su 8171 0 1 0), (.i .u8 (.ofNat 48))]), 9776,
   [(886, LO.row 1 false 12 (iL [0,0,1,2,2,3,3,0,3,3,4,4])),
    (942, Tryz.o5),
    (8171, LO.row 1 false 1 (aL [(.i .i64 (.ofNat 8))]))],
   (.su 9843 0 1 0),
   [(886, LO.row 1 false 12 (iL [0,0,1,2,2,3,3,0,3,3,4,4])),
    (942, Tryz.o5),
    (8171, LO.row 1 false 1 (aL [(.i .i64 (.ofNat 8))])),
    (9843, LO.row 1 false 1 (aL [(.i .i64 (.ofNat 9))]))],
   9844⟩
def Tryz.t231_74 : TE :=
  ⟨(aL [(.ag (aL [(.i .i64 (.ofNat 12)), (.i .i64 (.ofNat 0)), (.su 942 0 16 0), (.su 886 0 12 0)])), (.su 8171 0 1 0), (.i .u8 (.ofNat 97))]), 9850,
   [(886, LO.row 1 false 12 (iL [0,0,1,2,2,3,3,0,3,3,4,4])),
    (942, Tryz.o5),
    (8171, LO.row 1 false 1 (aL [(.i .i64 (.ofNat 8))]))],
   .sn,
   [(886, LO.row 1 false 12 (iL [0,0,1,2,2,3,3,0,3,3,4,4])),
    (942, Tryz.o5),
    (8171, LO.row 1 false 1 (aL [(.i .i64 (.ofNat 8))]))],
   9896⟩
def Tryz.t231_75 : TE :=
  ⟨(aL [(.ag (aL [(.i .i64 (.ofNat 12)), (.i .i64 (.ofNat 0)), (.su 942 0 16 0), (.su 886 0 12 0)])), (.su 8171 0 1 0), (.i .u8 (.ofNat 102))]), 9896,
   [(886, LO.row 1 false 12 (iL [0,0,1,2,2,3,3,0,3,3,4,4])),
    (942, Tryz.o5),
    (8171, LO.row 1 false 1 (aL [(.i .i64 (.ofNat 8))]))],
   .sn,
   [(886, LO.row 1 false 12 (iL [0,0,1,2,2,3,3,0,3,3,4,4])),
    (942, Tryz.o5),
    (8171, LO.row 1 false 1 (aL [(.i .i64 (.ofNat 8))]))],
   9942⟩
def Tryz.t231_76 : TE :=
  ⟨(aL [(.ag (aL [(.i .i64 (.ofNat 12)), (.i .i64 (.ofNat 0)), (.su 942 0 16 0), (.su 886 0 12 0)])), (.su 8171 0 1 0), (.i .u8 (.ofNat 105))]), 9942,
   [(886, LO.row 1 false 12 (iL [0,0,1,2,2,3,3,0,3,3,4,4])),
    (942, Tryz.o5),
    (8171, LO.row 1 false 1 (aL [(.i .i64 (.ofNat 8))]))],
   .sn,
   [(886, LO.row 1 false 12 (iL [0,0,1,2,2,3,3,0,3,3,4,4])),
    (942, Tryz.o5),
    (8171, LO.row 1 false 1 (aL [(.i .i64 (.ofNat 8))]))],
   9988⟩
def Tryz.t231_77 : TE :=
  ⟨(aL [(.ag (aL [(.i .i64 (.ofNat 12)), (.i .i64 (.ofNat 0)), (.su 942 0 16 0), (.su 886 0 12 0)])), (.su 9843 0 1 0), (.i .u8 (.ofNat 0))]), 9994,
   [(886, LO.row 1 false 12 (iL [0,0,1,2,2,3,3,0,3,3,4,4])),
    (942, Tryz.o5),
    (9843, LO.row 1 false 1 (aL [(.i .i64 (.ofNat 9))]))],
   .sn,
   [(886, LO.row 1 false 12 (iL [0,0,1,2,2,3,3,0,3,3,4,4])),
    (942, Tryz.o5),
    (9843, LO.row 1 false 1 (aL [(.i .i64 (.ofNat 9))]))],
   10040⟩
def Tryz.t231_78 : TE :=
  ⟨(aL [(.ag (aL [(.i .i64 (.ofNat 12)), (.i .i64 (.ofNat 0)), (.su 942 0 16 0), (.su 886 0 12 0)])), (.su 9843 0 1 0), (.i .u8 (.ofNat 32))]), 10040,
   [(886, LO.row 1 false 12 (iL [0,0,1,2,2,3,3,0,3,3,4,4])),
    (942, Tryz.o5),
    (9843, LO.row 1 false 1 (aL [(.i .i64 (.ofNat 9))]))],
   .sn,
   [(886, LO.row 1 false 12 (iL [0,0,1,2,2,3,3,0,3,3,4,4])),
    (942, Tryz.o5),
    (9843, LO.row 1 false 1 (aL [(.i .i64 (.ofNat 9))]))],
   10086⟩
def Tryz.t231_79 : TE :=
  ⟨(aL [(.ag (aL [(.i .i64 (.ofNat 12)), (.i .i64 (.ofNat 0)), (.su 942 0 16 0), (.su 886 0 12 0)])), (.su 9843 0 1 0), (.i .u8 (.ofNat 46))]), 10086,
   [(886, LO.row 1 false 12 (iL [0,0,1,2,2,3,3,0,3,3,4,4])),
    (942, Tryz.o5),
    (9843, LO.row 1 false 1 (aL [(.i .i64 (.ofNat 9))]))],
   .sn,
   [(886, LO.row 1 false 12 (iL [0,0,1,2,2,3,3,0,3,3,4,4])),
    (942, Tryz.o5),
    (9843, LO.row 1 false 1 (aL [(.i .i64 (.ofNat 9))]))],
   10132⟩
def Tryz.t231_80 : TE :=
  ⟨(aL [(.ag (aL [(.i .i64 (.ofNat 12)), (.i .i64 (.ofNat 0)), (.su 942 0 16 0), (.su 886 0 12 0)])), (.su 9843 0 1 0), (.i .u8 (.ofNat 48))]), 10132,
   [(886, LO.row 1 false 12 (iL [0,0,1,2,2,3,3,0,3,3,4,4])),
    (942, Tryz.o5),
    (9843, LO.row 1 false 1 (aL [(.i .i64 (.ofNat 9))]))],
   (.su 10199 0 1 0),
   [(886, LO.row 1 false 12 (iL [0,0,1,2,2,3,3,0,3,3,4,4])),
    (942, Tryz.o5),
    (9843, LO.row 1 false 1 (aL [(.i .i64 (.ofNat 9))])),
    (10199, LO.row 1 false 1 (aL [(.i .i64 (.ofNat 9))]))],
   10200⟩
def Tryz.t231_81 : TE :=
  ⟨(aL [(.ag (aL [(.i .i64 (.ofNat 12)), (.i .i64 (.ofNat 0)), (.su 942 0 16 0), (.su 886 0 12 0)])), (.su 9843 0 1 0), (.i .u8 (.ofNat 97))]), 10202,
   [(886, LO.row 1 false 12 (iL [0,0,1,2,2,3,3,0,3,3,4,4])),
    (942, Tryz.o5),
    (9843, LO.row 1 false 1 (aL [(.i .i64 (.ofNat 9))]))],
   .sn,
   [(886, LO.row 1 false 12 (iL [0,0,1,2,2,3,3,0,3,3,4,4])),
    (942, Tryz.o5),
    (9843, LO.row 1 false 1 (aL [(.i .i64 (.ofNat 9))]))],
   10248⟩
def Tryz.t231_82 : TE :=
  ⟨(aL [(.ag (aL [(.i .i64 (.ofNat 12)), (.i .i64 (.ofNat 0)), (.su 942 0 16 0), (.su 886 0 12 0)])), (.su 9843 0 1 0), (.i .u8 (.ofNat 102))]), 10248,
   [(886, LO.row 1 false 12 (iL [0,0,1,2,2,3,3,0,3,3,4,4])),
    (942, Tryz.o5),
    (9843, LO.row 1 false 1 (aL [(.i .i64 (.ofNat 9))]))],
   .sn,
   [(886, LO.row 1 false 12 (iL [0,0,1,2,2,3,3,0,3,3,4,4])),
    (942, Tryz.o5),
    (9843, LO.row 1 false 1 (aL [(.i .i64 (.ofNat 9))]))],
   10294⟩
def Tryz.t231_83 : TE :=
  ⟨(aL [(.ag (aL [(.i .i64 (.ofNat 12)), (.i .i64 (.ofNat 0)), (.su 942 0 16 0), (.su 886 0 12 0)])), (.su 9843 0 1 0), (.i .u8 (.ofNat 105))]), 10294,
   [(886, LO.row 1 false 12 (iL [0,0,1,2,2,3,3,0,3,3,4,4])),
    (942, Tryz.o5),
    (9843, LO.row 1 false 1 (aL [(.i .i64 (.ofNat 9))]))],
   .sn,
   [(886, LO.row 1 false 12 (iL [0,0,1,2,2,3,3,0,3,3,4,4])),
    (942, Tryz.o5),
    (9843, LO.row 1 false 1 (aL [(.i .i64 (.ofNat 9))]))],
   10340⟩
set_option maxRecDepth 100000 in
def Tryz.o6 : LO := LO.row 1 false 12 (aL [(.sl 5409 0 7 7), (.sl 5899 0 7 7), (.sl 6255 0 7 7), (.sl 6639 0 7 7), (.sl 7043 0 7 7), (.sl 7613 0 7 7), (.sl 7965 0 7 7), (.sl 8321 0 7 7), (.sl 8697 0 7 7), (.sl 9097 0 7 7), (.sl 9637 0 7 7), (.sl 9993 0 7 7)])
def Tryz.t161_0 : TE :=
  ⟨(aL [(.ag (aL [(.i .i64 (.ofNat 12)), (.i .i64 (.ofNat 0)), (.su 942 0 16 0), (.su 886 0 12 0)]))]), 944,
   [(886, LO.row 1 false 12 (iL [0,0,1,2,2,3,3,0,3,3,4,4])),
    (942, Tryz.o5)],
   (.tu (aL [(.ag (aL [(.sl 1011 0 256 256), (.su 10341 0 12 0), (.su 10344 0 12 0)])), (.i .i64 (.ofNat 0))])),
   [(886, LO.row 1 false 12 (iL [0,0,1,2,2,3,3,0,3,3,4,4])),
    (942, Tryz.o5),
    (1011, Tryz.o1),
    (5409, LO.row 7 true 0 (iL [0,2,0,3,4,4,5])),
    (5899, LO.row 7 true 0 (iL [0,6,0,0,0,0,0])),
    (6255, LO.row 7 true 0 (iL [0,0,7,8,0,0,0])),
    (6639, LO.row 7 true 0 (iL [0,0,0,0,9,9,9])),
    (7043, LO.row 7 true 0 (iL [0,0,0,0,9,10,9])),
    (7613, LO.row 7 true 0 (iL [0,6,0,0,0,0,0])),
    (7965, LO.row 7 true 0 (iL [0,0,0,11,0,0,0])),
    (8321, LO.row 7 true 0 (iL [0,0,7,8,0,0,0])),
    (8697, LO.row 7 true 0 (iL [0,0,0,0,9,9,9])),
    (9097, LO.row 7 true 0 (iL [0,0,0,0,9,9,9])),
    (9637, LO.row 7 true 0 (iL [0,0,0,12,0,0,0])),
    (9993, LO.row 7 true 0 (iL [0,0,0,12,0,0,0])),
    (10341, Tryz.o6),
    (10344, LO.row 1 false 12 (iL [0,4,3,2,2,4,0,3,2,1,3,3]))],
   10345⟩
set_option maxRecDepth 100000 in
def Tryz.o7 : LO := LO.row 7 false 14 (aL [(.i .i64 (.ofNat 0)), (.i .i64 (.ofNat 1)), (.b false), (.i .u64 (.ofNat 0)), (.i .u64 (.ofNat 2199023255552)), (.i .u64 (.ofNat 0)), (.i .u64 (.ofNat 0)), (.i .i64 (.ofNat 1)), (.i .i64 (.ofNat 2)), (.b false), (.i .u64 (.ofNat 0)), (.i .u64 (.ofNat 274877906944)), (.i .u64 (.ofNat 0)), (.i .u64 (.ofNat 0))])
def Tryz.t161_1 : TE :=
  ⟨(aL [(.ag (aL [(.i .i64 (.ofNat 3)), (.i .i64 (.ofNat 0)), (.su 15421 0 2 0), (.su 15412 0 3 0)]))]), 15424,
   [(15412, LO.row 1 false 3 (iL [0,0,1])),
    (15421, Tryz.o7)],
   (.tu (aL [(.ag (aL [(.sl 15435 0 256 256), (.su 16431 0 3 0), (.su 16434 0 3 0)])), (.i .i64 (.ofNat 0))])),
   [(15412, LO.row 1 false 3 (iL [0,0,1])),
    (15421, Tryz.o7),
    (15435, Tryz.o3),
    (16227, LO.row 3 true 0 (iL [0,0,2])),
    (16301, LO.row 3 true 0 (iL [0,3,0])),
    (16375, LO.row 3 true 0 (iL [0,0,0])),
    (16431, LO.row 1 false 3 (aL [(.sl 16227 0 3 3), (.sl 16301 0 3 3), (.sl 16375 0 3 3)])),
    (16434, LO.row 1 false 3 (iL [0,0,1]))],
   16435⟩
def Tryz.t161_2 : TE :=
  ⟨(aL [(.ag (aL [(.i .i64 (.ofNat 3)), (.i .i64 (.ofNat 0)), (.su 18191 0 2 0), (.su 18182 0 3 0)]))]), 18194,
   [(18182, LO.row 1 false 3 (iL [0,0,1])),
    (18191, Tryz.o7)],
   (.tu (aL [(.ag (aL [(.sl 18205 0 256 256), (.su 19201 0 3 0), (.su 19204 0 3 0)])), (.i .i64 (.ofNat 0))])),
   [(18182, LO.row 1 false 3 (iL [0,0,1])),
    (18191, Tryz.o7),
    (18205, Tryz.o3),
    (18997, LO.row 3 true 0 (iL [0,0,2])),
    (19071, LO.row 3 true 0 (iL [0,3,0])),
    (19145, LO.row 3 true 0 (iL [0,0,0])),
    (19201, LO.row 1 false 3 (aL [(.sl 18997 0 3 3), (.sl 19071 0 3 3), (.sl 19145 0 3 3)])),
    (19204, LO.row 1 false 3 (iL [0,0,1]))],
   19205⟩
set_option maxRecDepth 100000 in
def Tryz.o8 : LO := LO.row 1 false 8 (aL [(.sl 15293 0 7 7), (.sl 15306 0 7 7), (.sl 15311 0 7 7), (.sl 15318 0 7 7), (.sl 15323 0 7 7), (.sl 15330 0 7 7), (.sl 15337 0 7 7), (.sl 15342 0 7 7)])
def Tryz.t162_0 : TE :=
  ⟨(aL [(.ag (aL [(.sl 1011 0 256 256), (.su 10341 0 12 0), (.su 10344 0 12 0)]))]), 10346,
   [(1011, Tryz.o1),
    (5409, LO.row 7 true 0 (iL [0,2,0,3,4,4,5])),
    (5899, LO.row 7 true 0 (iL [0,6,0,0,0,0,0])),
    (6255, LO.row 7 true 0 (iL [0,0,7,8,0,0,0])),
    (6639, LO.row 7 true 0 (iL [0,0,0,0,9,9,9])),
    (7043, LO.row 7 true 0 (iL [0,0,0,0,9,10,9])),
    (7613, LO.row 7 true 0 (iL [0,6,0,0,0,0,0])),
    (7965, LO.row 7 true 0 (iL [0,0,0,11,0,0,0])),
    (8321, LO.row 7 true 0 (iL [0,0,7,8,0,0,0])),
    (8697, LO.row 7 true 0 (iL [0,0,0,0,9,9,9])),
    (9097, LO.row 7 true 0 (iL [0,0,0,0,9,9,9])),
    (9637, LO.row 7 true 0 (iL [0,0,0,12,0,0,0])),
    (9993, LO.row 7 true 0 (iL [0,0,0,12,0,0,0])),
    (10341, Tryz.o6),
    (10344, LO.row 1 false 12 (iL [0,4,3,2,2,4,0,3,2,1,3,3]))],
   (.ag (aL [(.sl 11178 0 256 256), (.su 15344 0 8 0), (.su 15346 0 8 0)])),
   [(1011, Tryz.o1),
    (5409, LO.row 7 true 0 (iL [0,2,0,3,4,4,5])),
    (5899, LO.row 7 true 0 (iL [0,6,0,0,0,0,0])),
    (6255, LO.row 7 true 0 (iL [0,0,7,8,0,0,0])),
    (6639, LO.row 7 true 0 (iL [0,0,0,0,9,9,9])),
    (7043, LO.row 7 true 0 (iL [0,0,0,0,9,10,9])),
    (7613, LO.row 7 true 0 (iL [0,6,0,0,0,0,0])),
    (7965, LO.row 7 true 0 (iL [0,0,0,11,0,0,0])),
    (8321, LO.row 7 true 0 (iL [0,0,7,8,0,0,0])),
    (8697, LO.row 7 true 0 (iL [0,0,0,0,9,9,9])),
    (9097, LO.row 7 true 0 (iL [0,0,0,0,9,9,9])),
    (9637, LO.row 7 true 0 (iL [0,0,0,12,0,0,0])),
    (9993, LO.row 7 true 0 (iL [0,0,0,12,0,0,0])),
    (10341, Tryz.o6),
    (10344, LO.row 1 false 12 (iL [0,4,3,2,2,4,0,3,2,1,3,3])),
    (11178, Tryz.o1),
    (15293, LO.row 7 true 0 (iL [0,2,0,3,4,4,5])),
    (15306, LO.row 7 true 0 (iL [0,2,0,0,0,0,0])),
    (15311, LO.row 7 true 0 (iL [0,0,6,3,0,0,0])),
    (15318, LO.row 7 true 0 (iL [0,0,0,0,4,4,4])),
    (15323, LO.row 7 true 0 (iL [0,0,0,0,4,7,4])),
    (15330, LO.row 7 true 0 (iL [0,0,0,8,0,0,0])),
    (15337, LO.row 7 true 0 (iL [0,0,0,0,4,4,4])),
    (15342, LO.row 7 true 0 (iL [0,0,0,8,0,0,0])),
    (15344, Tryz.o8),
    (15346, LO.row 1 false 8 (iL [0,4,3,2,2,0,1,3]))],
   15347⟩
def Tryz.t162_1 : TE :=
  ⟨(aL [(.ag (aL [(.sl 15435 0 256 256), (.su 16431 0 3 0), (.su 16434 0 3 0)]))]), 16436,
   [(15435, Tryz.o3),
    (16227, LO.row 3 true 0 (iL [0,0,2])),
    (16301, LO.row 3 true 0 (iL [0,3,0])),
    (16375, LO.row 3 true 0 (iL [0,0,0])),
    (16431, LO.row 1 false 3 (aL [(.sl 16227 0 3 3), (.sl 16301 0 3 3), (.sl 16375 0 3 3)])),
    (16434, LO.row 1 false 3 (iL [0,0,1]))],
   (.ag (aL [(.sl 16546 0 256 256), (.su 18109 0 3 0), (.su 18111 0 3 0)])),
   [(15435, Tryz.o3),
    (16227, LO.row 3 true 0 (iL [0,0,2])),
    (16301, LO.row 3 true 0 (iL [0,3,0])),
    (16375, LO.row 3 true 0 (iL [0,0,0])),
    (16431, LO.row 1 false 3 (aL [(.sl 16227 0 3 3), (.sl 16301 0 3 3), (.sl 16375 0 3 3)])),
    (16434, LO.row 1 false 3 (iL [0,0,1])),
    (16546, Tryz.o3),
    (18093, LO.row 3 true 0 (iL [0,0,2])),
    (18100, LO.row 3 true 0 (iL [0,3,0])),
    (18107, LO.row 3 true 0 (iL [0,0,0])),
    (18109, LO.row 1 false 3 (aL [(.sl 18093 0 3 3), (.sl 18100 0 3 3), (.sl 18107 0 3 3)])),
    (18111, LO.row 1 false 3 (iL [0,0,1]))],
   18112⟩
def Tryz.t162_2 : TE :=
  ⟨(aL [(.ag (aL [(.sl 18205 0 256 256), (.su 19201 0 3 0), (.su 19204 0 3 0)]))]), 19206,
   [(18205, Tryz.o3),
    (18997, LO.row 3 true 0 (iL [0,0,2])),
    (19071, LO.row 3 true 0 (iL [0,3,0])),
    (19145, LO.row 3 true 0 (iL [0,0,0])),
    (19201, LO.row 1 false 3 (aL [(.sl 18997 0 3 3), (.sl 19071 0 3 3), (.sl 19145 0 3 3)])),
    (19204, LO.row 1 false 3 (iL [0,0,1]))],
   (.ag (aL [(.sl 19316 0 256 256), (.su 20879 0 3 0), (.su 20881 0 3 0)])),
   [(18205, Tryz.o3),
    (18997, LO.row 3 true 0 (iL [0,0,2])),
    (19071, LO.row 3 true 0 (iL [0,3,0])),
    (19145, LO.row 3 true 0 (iL [0,0,0])),
    (19201, LO.row 1 false 3 (aL [(.sl 18997 0 3 3), (.sl 19071 0 3 3), (.sl 19145 0 3 3)])),
    (19204, LO.row 1 false 3 (iL [0,0,1])),
    (19316, Tryz.o3),
    (20863, LO.row 3 true 0 (iL [0,0,2])),
    (20870, LO.row 3 true 0 (iL [0,3,0])),
    (20877, LO.row 3 true 0 (iL [0,0,0])),
    (20879, LO.row 1 false 3 (aL [(.sl 20863 0 3 3), (.sl 20870 0 3 3), (.sl 20877 0 3 3)])),
    (20881, LO.row 1 false 3 (iL [0,0,1]))],
   20882⟩
def Tryz.t166_0 : TE :=
  ⟨(aL [(.ag (aL [(.sl 16546 0 256 256), (.su 18109 0 3 0), (.su 18111 0 3 0)])), (.ag (aL [(.sl 19316 0 256 256), (.su 20879 0 3 0), (.su 20881 0 3 0)]))]), 20883,
   [(16546, Tryz.o3),
    (18093, LO.row 3 true 0 (iL [0,0,2])),
    (18100, LO.row 3 true 0 (iL [0,3,0])),
    (18107, LO.row 3 true 0 (iL [0,0,0])),
    (18109, LO.row 1 false 3 (aL [(.sl 18093 0 3 3), (.sl 18100 0 3 3), (.sl 18107 0 3 3)])),
    (18111, LO.row 1 false 3 (iL [0,0,1])),
    (19316, Tryz.o3),
    (20863, LO.row 3 true 0 (iL [0,0,2])),
    (20870, LO.row 3 true 0 (iL [0,3,0])),
    (20877, LO.row 3 true 0 (iL [0,0,0])),
    (20879, LO.row 1 false 3 (aL [(.sl 20863 0 3 3), (.sl 20870 0 3 3), (.sl 20877 0 3 3)])),
    (20881, LO.row 1 false 3 (iL [0,0,1]))],
   (.tu (aL [(.s []), (.b false)])),
   [(16546, Tryz.o3),
    (18093, LO.row 3 true 0 (iL [0,0,2])),
    (18100, LO.row 3 true 0 (iL [0,3,0])),
    (18107, LO.row 3 true 0 (iL [0,0,0])),
    (18109, LO.row 1 false 3 (aL [(.sl 18093 0 3 3), (.sl 18100 0 3 3), (.sl 18107 0 3 3)])),
    (18111, LO.row 1 false 3 (iL [0,0,1])),
    (19316, Tryz.o3),
    (20863, LO.row 3 true 0 (iL [0,0,2])),
    (20870, LO.row 3 true 0 (iL [0,3,0])),
    (20877, LO.row 3 true 0 (iL [0,0,0])),
    (20879, LO.row 1 false 3 (aL [(.sl 20863 0 3 3), (.sl 20870 0 3 3), (.sl 20877 0 3 3)])),
    (20881, LO.row 1 false 3 (iL [0,0,1]))],
   22956⟩
set_option maxRecDepth 100000 in
def Tryz.o9 : LO := LO.row 20 true 0 (aL [(.s [105,102]), (.i .i64 (.ofNat 3)), (.s [105,102]), (.s [105,102]), (.s []), (.s [119,111,114,100]), (.i .i64 (.ofNat 1)), (.s [91,97,45,122,93,43]), (.s [120]), (.s []), (.s [110,117,109]), (.i .i64 (.ofNat 1)), (.s [91,48,45,57,93,43,40,92,46,91,48,45,57,93,43,41,63]), (.s [48]), (.s []), (.s [98,108,97,110,107]), (.i .i64 (.ofNat 2)), (.s [32,43]), (.s [32]), (.s [])])
def Tryz.t7_0 : TE :=
  ⟨(aL [(.ag (aL [(.sl 11 0 4 4), (.b false), (.i .i64 (.ofNat 0)), (.i .i64 (.ofNat 0))]))]), 12,
   [(1, LO.row 3 true 0 (aL [(.s [110,101,119,108,105,110,101]), (.s [105,110,100,101,110,116]), (.s [100,101,100,101,110,116])])),
    (11, Tryz.o9)],
   (.tu (aL [(.ag (aL [(.sl 11178 0 256 256), (.su 15344 0 8 0), (.su 15346 0 8 0)])), (.i .i64 (.ofNat 0))])),
   [(1, LO.row 3 true 0 (aL [(.s [110,101,119,108,105,110,101]), (.s [105,110,100,101,110,116]), (.s [100,101,100,101,110,116])])),
    (11, Tryz.o9),
    (11178, Tryz.o1),
    (15293, LO.row 7 true 0 (iL [0,2,0,3,4,4,5])),
    (15306, LO.row 7 true 0 (iL [0,2,0,0,0,0,0])),
    (15311, LO.row 7 true 0 (iL [0,0,6,3,0,0,0])),
    (15318, LO.row 7 true 0 (iL [0,0,0,0,4,4,4])),
    (15323, LO.row 7 true 0 (iL [0,0,0,0,4,7,4])),
    (15330, LO.row 7 true 0 (iL [0,0,0,8,0,0,0])),
    (15337, LO.row 7 true 0 (iL [0,0,0,0,4,4,4])),
    (15342, LO.row 7 true 0 (iL [0,0,0,8,0,0,0])),
    (15344, Tryz.o8),
    (15346, LO.row 1 false 8 (iL [0,4,3,2,2,0,1,3]))],
   22966⟩
def Tryz.t31_0 : TE :=
  ⟨(aL [(.ag (aL [(.sl 22968 0 1 1), (.sl 22969 0 1 1), (.i .i64 (.ofNat 0)), (.sl 22971 0 2 2)])), (.sl 22973 0 2 2)]), 22974,
   [(22968, LO.row 1 true 0 (aL [(.s [97])])),
    (22969, LO.row 1 true 0 (aL [(.s [115])])),
    (22970, LO.row 2 true 0 (aL [(.i .i64 (.ofNat 0)), (.i .i64 (.negSucc 0))])),
    (22971, LO.row 6 true 0 (aL [(.i .i64 (.ofNat 0)), (.sl 22970 0 2 2), (.i .i64 (.ofNat 0)), (.i .i64 (.ofNat 0)), .sn, (.i .i64 (.ofNat 0))])),
    (22973, LO.row 2 true 0 (aL [(.i .i64 (.ofNat 0)), (.i .i64 (.ofNat 0))]))],
   (.b true),
   [(22968, LO.row 1 true 0 (aL [(.s [97])])),
    (22969, LO.row 1 true 0 (aL [(.s [115])])),
    (22970, LO.row 2 true 0 (aL [(.i .i64 (.ofNat 0)), (.i .i64 (.negSucc 0))])),
    (22971, LO.row 6 true 0 (aL [(.i .i64 (.ofNat 0)), (.sl 22970 0 2 2), (.i .i64 (.ofNat 0)), (.i .i64 (.ofNat 0)), .sn, (.i .i64 (.ofNat 0))])),
    (22973, LO.row 2 true 0 (aL [(.i .i64 (.ofNat 0)), (.i .i64 (.ofNat 0))]))],
   23164⟩
def Tryz.t31_1 : TE :=
  ⟨(aL [(.ag (aL [(.sl 22968 0 1 1), (.sl 22969 0 1 1), (.i .i64 (.ofNat 0)), (.sl 22971 0 2 2)])), (.sl 23164 0 1 1)]), 23165,
   [(22968, LO.row 1 true 0 (aL [(.s [97])])),
    (22969, LO.row 1 true 0 (aL [(.s [115])])),
    (22970, LO.row 2 true 0 (aL [(.i .i64 (.ofNat 0)), (.i .i64 (.negSucc 0))])),
    (22971, LO.row 6 true 0 (aL [(.i .i64 (.ofNat 0)), (.sl 22970 0 2 2), (.i .i64 (.ofNat 0)), (.i .i64 (.ofNat 0)), .sn, (.i .i64 (.ofNat 0))])),
    (23164, LO.row 1 true 0 (aL [(.i .i64 (.ofNat 1))]))],
   (.b false),
   [(22968, LO.row 1 true 0 (aL [(.s [97])])),
    (22969, LO.row 1 true 0 (aL [(.s [115])])),
    (22970, LO.row 2 true 0 (aL [(.i .i64 (.ofNat 0)), (.i .i64 (.negSucc 0))])),
    (22971, LO.row 6 true 0 (aL [(.i .i64 (.ofNat 0)), (.sl 22970 0 2 2), (.i .i64 (.ofNat 0)), (.i .i64 (.ofNat 0)), .sn, (.i .i64 (.ofNat 0))])),
    (23164, LO.row 1 true 0 (aL [(.i .i64 (.ofNat 1))]))],
   23209⟩
def Tryz.l227_0 : List TE := [Tryz.t227_0]
def Tryz.l227_1 : List TE := [Tryz.t227_1]
def Tryz.l227_2 : List TE := [Tryz.t227_2]
def Tryz.l236_0 : List TE := [Tryz.t236_0]
def Tryz.l236_1 : List TE := [Tryz.t236_1]
def Tryz.l236_2 : List TE := [Tryz.t236_2]
def Tryz.l231_0 : List TE := [Tryz.t231_0, Tryz.t231_1, Tryz.t231_2, Tryz.t231_3, Tryz.t231_4, Tryz.t231_5, Tryz.t231_6, Tryz.t231_7, Tryz.t231_8, Tryz.t231_9, Tryz.t231_10, Tryz.t231_11, Tryz.t231_12, Tryz.t231_13, Tryz.t231_14, Tryz.t231_15, Tryz.t231_16, Tryz.t231_17, Tryz.t231_18, Tryz.t231_19, Tryz.t231_20, Tryz.t231_21, Tryz.t231_22, Tryz.t231_23, Tryz.t231_24, Tryz.t231_25, Tryz.t231_26, Tryz.t231_27]
def Tryz.l231_1 : List TE := [Tryz.t231_28, Tryz.t231_29, Tryz.t231_30, Tryz.t231_31, Tryz.t231_32, Tryz.t231_33, Tryz.t231_34, Tryz.t231_35, Tryz.t231_36, Tryz.t231_37, Tryz.t231_38, Tryz.t231_39, Tryz.t231_40, Tryz.t231_41, Tryz.t231_42, Tryz.t231_43, Tryz.t231_44, Tryz.t231_45, Tryz.t231_46, Tryz.t231_47, Tryz.t231_48, Tryz.t231_49, Tryz.t231_50, Tryz.t231_51, Tryz.t231_52, Tryz.t231_53, Tryz.t231_54, Tryz.t231_55]
def Tryz.l231_2 : List TE := [Tryz.t231_56, Tryz.t231_57, Tryz.t231_58, Tryz.t231_59, Tryz.t231_60, Tryz.t231_61, Tryz.t231_62, Tryz.t231_63, Tryz.t231_64, Tryz.t231_65, Tryz.t231_66, Tryz.t231_67, Tryz.t231_68, Tryz.t231_69, Tryz.t231_70, Tryz.t231_71, Tryz.t231_72, Tryz.t231_73, Tryz.t231_74, Tryz.t231_75, Tryz.t231_76, Tryz.t231_77, Tryz.t231_78, Tryz.t231_79, Tryz.t231_80, Tryz.t231_81, Tryz.t231_82, Tryz.t231_83]
noncomputable def Tryz.ext1 : Ext := extT 231 (Tryz.l231_0 ++ (Tryz.l231_1 ++ (Tryz.l231_2))) (extT 236 (Tryz.l236_0 ++ (Tryz.l236_1 ++ (Tryz.l236_2))) (extT 227 (Tryz.l227_0 ++ (Tryz.l227_1 ++ (Tryz.l227_2))) (ext0)))
def Tryz.l161_0 : List TE := [Tryz.t161_0]
def Tryz.l161_1 : List TE := [Tryz.t161_1]
def Tryz.l161_2 : List TE := [Tryz.t161_2]
def Tryz.l162_0 : List TE := [Tryz.t162_0]
def Tryz.l162_1 : List TE := [Tryz.t162_1]
def Tryz.l162_2 : List TE := [Tryz.t162_2]
def Tryz.l166_0 : List TE := [Tryz.t166_0]
noncomputable def Tryz.ext2 : Ext := extT 166 (Tryz.l166_0) (extT 162 (Tryz.l162_0 ++ (Tryz.l162_1 ++ (Tryz.l162_2))) (extT 161 (Tryz.l161_0 ++ (Tryz.l161_1 ++ (Tryz.l161_2))) (Tryz.ext1)))
def Tryz.l7_0 : List TE := [Tryz.t7_0]
def Tryz.l31_0 : List TE := [Tryz.t31_0]
def Tryz.l31_1 : List TE := [Tryz.t31_1]
noncomputable def Tryz.ext3 : Ext := extT 31 (Tryz.l31_0 ++ (Tryz.l31_1)) (extT 7 (Tryz.l7_0) (Tryz.ext2))
end Go.Proofs
end
