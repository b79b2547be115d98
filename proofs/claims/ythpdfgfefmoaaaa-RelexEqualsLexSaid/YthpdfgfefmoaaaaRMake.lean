/- A slice of 256 numbers. -/
import Derived.Test.YthpdfgfefmoaaaaBase
namespace Go.Proofs.Ythpdfgfefmoaaaa
open Go.RowKit

def zeros256 : Array Value := Array.replicate 256 (.int .i64 0)
theorem infoInt : (Try.prog.info? 3).map (fun i => (i.zero, i.size, i.bytes)) = some (some (.int .i64 0), 1, 8) := by kernel_rfl
theorem run_make256 (w : World) : (Instr.makeSlice 22 (.int .i64 256) (.int .i64 256)).run Try.prog w = .ok (.slice (some ⟨w.heap.size, 0, none⟩) 256 256) (w.alloc (.cells zeros256 3)) := by
  obtain ⟨i0, hi0, hz0, hz1, hz2⟩ := info_parts infoInt
  have h := run_make (P := Try.prog) w 22 3 i0 (.int .i64 0) Try.underlying22 hi0 hz0 .i64 .i64 256 256 (by omega) (by omega) (by rw [hz2]; omega) (by omega)
  have hm : madeCells (Value.int .i64 0).cells (Int.toNat 256 * i0.size) = zeros256 := by
    rw [hz1]
    apply Array.toList_inj.1
    show (madeCells #[.int .i64 0] 256).toList = _
    rw [toList_madeCells_one]
    unfold zeros256
    simp
  rw [hm] at h
  exact h

theorem zeros256_at (i : Nat) (h : i < 256) : zeros256[i]? = some (.int .i64 0) := by unfold zeros256; simp [h]

end Go.Proofs.Ythpdfgfefmoaaaa
