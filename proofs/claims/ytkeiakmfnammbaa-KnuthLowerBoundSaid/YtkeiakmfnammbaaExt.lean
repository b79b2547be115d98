/- A region that draws its order, whose callees make blocks of their own and hand back plain values, walked once: the class of the worlds in which nothing of what was there has turned. -/
import Derived.Test.YtkeiakmfnammbaaBase
namespace Go.Proofs.Ytkeiakmfnammbaa
open Go.RowKit

structure Ext (w : World) where
  W : World
  h : Below w.heap.size w W
instance (w : World) : Nonempty (Ext w) := ⟨⟨w, Below.refl _ _⟩⟩
theorem wp_region_ext {P : Program} {id : Nat} {Q : Exit → Act → World → Prop} {a : Act} {w : World} {l : List Oper} (hm : P.follows .mixedOrders = true) (hB : Region.lexB .any l.toArray = true)
    (h : wpQuiet P l.toArray (fun w' => ∃ u : Ext w, w' = u.W) (fun a' => ∀ w', (∃ u : Ext w, w' = u.W) → Q .normal a' w') l a) : (Code.region id l.toArray true).wp P Q a w :=
  wp_region_quiet (C := fun w' => ∃ u : Ext w, w' = u.W) hm hB ⟨⟨_, (Below.refl _ w).drew⟩, rfl⟩ (by simpa using h)
theorem calls_ext {P : Program} {f : FuncId} {args : Array Value} {w : World} {u : Ext w} {v : Value} (h : Calls P f args u.W fun e w' => e = .returned v ∧ Below u.W.heap.size u.W w') :
    Calls P f args u.W fun e w'' => e = .returned v ∧ ∃ u' : Ext w, w'' = u'.W :=
  h.mono fun _ _ ⟨he, hb⟩ => ⟨he, ⟨_, u.h.trans (hb.mono u.h.size)⟩, rfl⟩
theorem calls_ext_drewN {P : Program} {f : FuncId} {args : Array Value} {w : World} {u : Ext w} {v : Value} (h : Calls P f args u.W fun e w' => e = .returned v ∧ ∃ n, w' = u.W.drewN n) :
    Calls P f args u.W fun e w'' => e = .returned v ∧ ∃ u' : Ext w, w'' = u'.W :=
  h.mono fun _ _ ⟨he, n, hn⟩ => ⟨he, ⟨_, hn ▸ below_drewN u.h n⟩, rfl⟩
theorem ext_cell {w : World} {p : Addr} {v : Value} (h : w.cell? p = some v) (u : Ext w) : u.W.cell? p = some v := (u.h.cell (World.block_lt_of_cell? w p h)).trans h
end Go.Proofs.Ytkeiakmfnammbaa
