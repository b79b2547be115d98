/- A leaf of the region that makes the solver. -/
import Derived.Test.YtkeiakmfnammbaaKnMakeB
namespace Go.Proofs.Ytkeiakmfnammbaa
open Go.RowKit

theorem parts_leaf {w1 wx : World} {sb va sa oa ua N M ce : Nat} {E : Option Addr}
    (k0 : Blk wx sb 61 #[.int .i64 N, .slice E M ce, .slice (some ⟨va, 0, none⟩) N N, .slice (some ⟨sa, 0, none⟩) N N, .slice (some ⟨oa, 0, none⟩) M M, .slice (some ⟨ua, 0, none⟩) N N, .pointer none])
    (kV : Blk wx va 23 (vls (List.replicate N ⟨0, 0⟩)).toArray) (kB : Blk wx sa 4 (bools (List.replicate N false)).toArray) (kO : Blk wx oa 3 (ints (List.replicate M 0)).toArray) (kU : Blk wx ua 36 (ursC (List.replicate N noUr)).toArray)
    (lo : w1.heap.size ≤ sb ∧ w1.heap.size ≤ va ∧ w1.heap.size ≤ sa ∧ w1.heap.size ≤ oa ∧ w1.heap.size ≤ ua) (below : Below w1.heap.size w1 wx) :
    ∃ sb' va sa oa ua : Nat, Value.pointer (some ⟨sb, 0, none⟩) = .pointer (some ⟨sb', 0, none⟩) ∧ Parts w1 wx sb' va sa oa ua N M E ce := ⟨sb, va, sa, oa, ua, rfl, ⟨k0, kV, kB, kO, kU, lo, below⟩⟩
end Go.Proofs.Ytkeiakmfnammbaa
