/- The reference's improve. -/
import Derived.Test.YthakcefgbggkcaaDoorChImp1
import Derived.Test.YthakcefgbggkcaaDoorChImp2
import Derived.Test.YthakcefgbggkcaaDoorChImp3
import Derived.Test.YthakcefgbggkcaaDoorChImp4
namespace Go.Proofs.YthakcefgbggkcaaDoor
open Go.RowKit

theorem improve_any (w : World) (T st : Int) (N S nR rc nL lc nf fc nc cc B oc s t k : Nat) (RA LA FA CA OA : Option Addr) (R : List Rl) (L : List Ar) (cs own : List Cl) (r : Rl) (x : Cl)
    (hR : Reads w B 6 RA nR (rls R)) (hL : Reads w B 5 LA nL (ars L)) (hC : Reads w B 4 CA nc (cls cs)) (hO : Reads w B 4 OA N (cls own)) (hB : B ≤ w.heap.size)
    (hN : N ≤ 1000) (hS : S ≤ 200) (hnc : nc ≤ 1000000000) (hnL : nL ≤ 1000000000) (hst : s ≤ t) (htS : t < S) (hr : R[k]? = some r) (hok : r.Ok N) (hLok : ArsOk S L) (hx : own[r.hd.toNat]? = some x) (hord : ∀ y, Nrm (spv (CC N S cs) s t (vf own) y)) :
    Calls Tryd.prog 42 #[.agg #[.int .i64 T, .int .i64 N, .int .i64 st, .slice RA nR rc], .agg #[.int .i64 S, .slice LA nL lc, .slice FA nf fc], .agg #[.int .i64 N, .int .i64 S, .slice CA nc cc], .slice OA N oc, .int .i64 s, .int .i64 t, .int .i64 k] w fun e w' =>
      e = .returned (.agg #[.int .i64 (impr (spv (CC N S cs) s t (vf own)) k (insts L s t r) x).v.c, .int .i64 (impr (spv (CC N S cs) s t (vf own)) k (insts L s t r) x).v.s, .int .i64 (impr (spv (CC N S cs) s t (vf own)) k (insts L s t r) x).r, .int .i64 (impr (spv (CC N S cs) s t (vf own)) k (insts L s t r) x).a]) ∧ Below w.heap.size w w' := by
  rcases hok.k with (h | h) | ⟨h, _⟩ | ⟨h, _⟩
  · exact improve1_any w T st N S nR rc nL lc nf fc nc cc B oc s t k RA LA FA CA OA R L cs own r x hR hL hC hO hB hN hS hnc hnL hst htS hr hok hLok hx hord h
  · exact improve2_any w T st N S nR rc nL lc nf fc nc cc B oc s t k RA LA FA CA OA R L cs own r x hR hL hC hO hB hN hS hnc hnL hst htS hr hok hLok hx hord h
  · exact improve3_any w T st N S nR rc nL lc nf fc nc cc B oc s t k RA LA FA CA OA R L cs own r x hR hL hC hO hB hN hS hnc hnL hst htS hr hok hLok hx hord h
  · exact improve4_any w T st N S nR rc nL lc nf fc nc cc B oc s t k RA LA FA CA OA R L cs own r x hR hL hC hO hB hN hS hnc hnL hst htS hr hok hLok hx hord h
end Go.Proofs.YthakcefgbggkcaaDoor
