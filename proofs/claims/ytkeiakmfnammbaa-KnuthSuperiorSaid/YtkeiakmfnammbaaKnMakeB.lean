/- The solver made: what its parts are. -/
import Derived.Test.YtkeiakmfnammbaaKnInv
namespace Go.Proofs.Ytkeiakmfnammbaa
open Go.RowKit

theorem infoB1 : (Try.prog.info? 4).map (fun i => (i.zero, i.size, i.bytes)) = some (some (.bool false), 1, 1) := by kernel_rfl
theorem infoI1 : (Try.prog.info? 3).map (fun i => (i.zero, i.size, i.bytes)) = some (some (.int .i64 0), 1, 8) := by kernel_rfl
theorem infoS1 : (Try.prog.info? 36).map (fun i => (i.zero, i.size, i.bytes)) = some (some (.slice none 0 0), 1, 24) := by kernel_rfl
theorem made_one (z : Value) (n : Nat) : madeCells #[z] n = (List.replicate n z).toArray := by
  apply Array.toList_inj.1
  rw [toList_madeCells_one]
theorem made_bools (n : Nat) : madeCells #[.bool false] n = (bools (List.replicate n false)).toArray := by rw [made_one]; simp [bools]
theorem made_ints (n : Nat) : madeCells #[.int .i64 0] n = (ints (List.replicate n 0)).toArray := by rw [made_one]; simp [ints]
def noUr : Ur := ⟨none, 0, []⟩
theorem made_urs (n : Nat) : madeCells #[.slice none 0 0] n = (ursC (List.replicate n noUr)).toArray := by rw [made_one]; simp [ursC, noUr]
theorem mk_bools (n : Nat) (hn : n ≤ 1000000) (w : World) : (Instr.makeSlice 45 (.int .i64 (n : Int)) (.int .i64 (n : Int))).run Try.prog w = .ok (.slice (some ⟨w.heap.size, 0, none⟩) n n) (w.alloc (.cells (bools (List.replicate n false)).toArray 4)) := by
  rw [← made_bools]
  exact run_make_row' (P := Try.prog) 45 4 (.bool false) 1 Try.underlying45 infoB1 rfl .i64 .i64 n (by omega) (by omega) w
theorem mk_ints (n : Nat) (hn : n ≤ 1000000) (w : World) : (Instr.makeSlice 36 (.int .i64 (n : Int)) (.int .i64 (n : Int))).run Try.prog w = .ok (.slice (some ⟨w.heap.size, 0, none⟩) n n) (w.alloc (.cells (ints (List.replicate n 0)).toArray 3)) := by
  rw [← made_ints]
  exact run_make_row' (P := Try.prog) 36 3 (.int .i64 0) 8 Try.underlying36 infoI1 rfl .i64 .i64 n (by omega) (by omega) w
theorem mk_urs (n : Nat) (hn : n ≤ 1000000) (w : World) : (Instr.makeSlice 58 (.int .i64 (n : Int)) (.int .i64 (n : Int))).run Try.prog w = .ok (.slice (some ⟨w.heap.size, 0, none⟩) n n) (w.alloc (.cells (ursC (List.replicate n noUr)).toArray 36)) := by
  rw [← made_urs]
  exact run_make_row' (P := Try.prog) 58 36 (.slice none 0 0) 24 Try.underlying58 infoS1 rfl .i64 .i64 n (by omega) (by omega) w
theorem Blk.drew1 {w : World} {g : Nat} {t : TypeId} {cs : Array Value} (h : Blk w g t cs) : Blk w.drew g t cs := h
theorem below_drew1 {B : Nat} {w w' : World} (h : Below B w w') : Below B w w'.drew := below_drewN h 1
/-- The parts as they are made, wherever they lie. -/
structure Parts (w0 w : World) (sb va sa oa ua N M : Nat) (E : Option Addr) (ce : Nat) : Prop where
  kS : Blk w sb 61 #[.int .i64 N, .slice E M ce, .slice (some ⟨va, 0, none⟩) N N, .slice (some ⟨sa, 0, none⟩) N N, .slice (some ⟨oa, 0, none⟩) M M, .slice (some ⟨ua, 0, none⟩) N N, .pointer none]
  kV : Blk w va 23 (vls (List.replicate N ⟨0, 0⟩)).toArray
  kB : Blk w sa 4 (bools (List.replicate N false)).toArray
  kO : Blk w oa 3 (ints (List.replicate M 0)).toArray
  kU : Blk w ua 36 (ursC (List.replicate N noUr)).toArray
  lo : w0.heap.size ≤ sb ∧ w0.heap.size ≤ va ∧ w0.heap.size ≤ sa ∧ w0.heap.size ≤ oa ∧ w0.heap.size ≤ ua
  below : Below w0.heap.size w0 w
theorem S_alloc {w : World} {b : Nat} {x y : Value} (h : w.cell? ⟨b, 0, none⟩ = some x ∧ w.cell? ⟨b, 1, none⟩ = some y) (o : Obj) : (w.alloc o).cell? ⟨b, 0, none⟩ = some x ∧ (w.alloc o).cell? ⟨b, 1, none⟩ = some y :=
  ⟨(World.cell?_alloc_lt w o _ (World.block_lt_of_cell? w _ h.1)).trans h.1, (World.cell?_alloc_lt w o _ (World.block_lt_of_cell? w _ h.2)).trans h.2⟩
theorem S_alloc_drew {w : World} {b : Nat} {x y : Value} (h : w.cell? ⟨b, 0, none⟩ = some x ∧ w.cell? ⟨b, 1, none⟩ = some y) (o : Obj) : ((w.alloc o).drew).cell? ⟨b, 0, none⟩ = some x ∧ ((w.alloc o).drew).cell? ⟨b, 1, none⟩ = some y := S_alloc h o

end Go.Proofs.Ytkeiakmfnammbaa
