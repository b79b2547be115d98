/- text returns some text of as many bytes as asked. -/
import Derived.Test.YtepohmklbfkdfaaULaw
import Derived.Laws.MakeOwn
import Derived.Laws.BytesString
namespace Go.Proofs.Ytepohmklbfkdfaa
open Go.RowKit

/-- An array of n bytes. -/
def BytesArr (n : Nat) (cs : Array Value) : Prop := cs.size = n ∧ ∀ i, i < n → ∃ z : Int, cs[i]? = some (.int .u8 z)
theorem BytesArr.set {n : Nat} {cs : Array Value} (h : BytesArr n cs) (i : Nat) (z : Int) : BytesArr n (cs.setIfInBounds i (.int .u8 z)) := by
  refine ⟨by rw [Array.size_setIfInBounds]; exact h.1, fun j hj => ?_⟩
  rw [Array.getElem?_setIfInBounds]
  by_cases e : i = j
  · subst e
    rw [if_pos rfl, if_pos (by rw [h.1]; exact hj)]
    exact ⟨z, rfl⟩
  · rw [if_neg e]
    exact h.2 j hj
theorem bytes_made (n : Nat) : BytesArr n (madeCells #[.int .u8 0] n) := by
  refine ⟨size_madeCells _ _, fun i hi => ⟨0, ?_⟩⟩
  unfold madeCells
  simp only [Array.getElem?_map, Array.getElem?_range, hi, if_true, Option.map_some]
  simp [Nat.mod_one]
theorem foldl_push_size : ∀ (ns : List Int) (s : ByteArray), (ns.foldl (fun r n => r.push (UInt8.ofNat n.toNat)) s).size = s.size + ns.length
  | [], s => by simp
  | n :: ns, s => by
    rw [List.foldl_cons, foldl_push_size ns]
    simp [ByteArray.size_push]
    omega
theorem BytesArr.list {n : Nat} {cs : Array Value} (h : BytesArr n cs) : ∃ ns : List Int, ns.length = n ∧ cs = (ns.map (Value.int .u8)).toArray := by
  have each : ∀ i : Fin n, ∃ z : Int, cs[i.1]? = some (.int .u8 z) := fun i => h.2 i.1 i.2
  refine ⟨List.ofFn fun i => Classical.choose (each i), by simp, ?_⟩
  apply Array.toList_inj.1
  apply List.ext_getElem?
  intro i
  rw [Array.getElem?_toList]
  show _ = (List.map (Value.int .u8) (List.ofFn fun i => Classical.choose (each i)))[i]?
  rw [List.getElem?_map, List.getElem?_ofFn]
  split
  · rename_i hi
    exact Classical.choose_spec (each ⟨i, hi⟩)
  · rename_i hi
    rw [Array.getElem?_eq_none (by rw [h.1]; omega)]
    rfl
theorem run_str_bytes {w : World} {N n : Nat} {cs : Array Value} (h : BytesArr n cs) (K : Blk w N 5 cs) : ∃ t : ByteArray, t.size = n ∧ (convert 63 9 (.slice (some ⟨N, 0, none⟩) n n)).run Try.prog w = .ok (.string t) w := by
  obtain ⟨ns, hl, rfl⟩ := h.list
  have h1 : (loadCells ⟨N, 0, none⟩ n).run Try.prog w = .ok (ns.map (Value.int .u8)).toArray w := by
    have := run_loadCells_list (P := Try.prog) (w := w) ⟨N, 0, none⟩ (ns.map (Value.int .u8)) (fun j v hv => by
      rw [Addr.add_lit, Nat.zero_add, K.cell, List.getElem?_toArray]
      exact hv)
    rw [List.length_map, hl] at this
    exact this
  refine ⟨_, ?_, (run_convert_bytes_string w 63 9 5 _ n n Try.underlying63 Try.underlying5 Try.underlying9).trans (run_bytesToString w ⟨N, 0, none⟩ n n ns h1)⟩
  rw [foldl_push_size, hl]
  simp
theorem infoU8 : (Try.prog.info? 5).map (fun i => (i.zero, i.size, i.bytes)) = some (some (.int .u8 0), 1, 1) := by kernel_rfl
theorem run_make_u8 (w : World) (n : Nat) (hn : n ≤ 1000000) : (Instr.makeSlice 63 (.int .i64 n) (.int .i64 n)).run Try.prog w = .ok (.slice (some ⟨w.heap.size, 0, none⟩) n n) (w.alloc (.cells (madeCells #[.int .u8 0] n) 5)) := by
  obtain ⟨i0, hi0, hz0, hz1, hz2⟩ := info_parts infoU8
  have h := run_make (P := Try.prog) w 63 5 i0 (.int .u8 0) Try.underlying63 hi0 hz0 .i64 .i64 n n (by omega) (by omega) (by rw [hz2]; omega) (by omega)
  rw [hz1, Int.toNat_natCast, Nat.mul_one] at h
  exact h

def SomeText (n : Nat) (w : World) (e : Ending) (w' : World) : Prop := ∃ t : ByteArray, t.size = n ∧ e = .returned (.string t) ∧ Below w.heap.size w w'

set_option maxHeartbeats 1000000 in
theorem textN_any (n : Nat) (w : World) (hn : n ≤ 10000) : Calls Try.prog 22 #[.int .i64 n] w (SomeText n w) := by
  have hmk := fun w => run_make_u8 w n (by omega)
  have K0 := Blk.new' w 5 (madeCells #[.int .u8 0] n) rfl
  have hb0 : Below w.heap.size w (w.alloc (.cells (madeCells #[.int .u8 0] n) 5)) := (Below.refl _ _).alloc (Nat.le_refl _) _
  go_enter Try.func22, Try.ntmps22
  go_wp2_with fail
  clear hmk
  go_loopw [4] (fun a wr => ∃ (k : Nat) (cs : Array Value), k ≤ n ∧ a = .int .i64 k ∧ Hid (BytesArr n cs) ∧ Hid (Blk wr w.heap.size 5 cs) ∧ Below w.heap.size w wr) (fun a _ => n - (intOf a).toNat)
  case atStart => exact ⟨0, _, Nat.zero_le _, rfl, bytes_made n, K0, hb0⟩
  case round =>
    obtain ⟨k, cs, hk, rfl, HB, HK, hb⟩ := hrel
    by_cases hlt : k < n
    · obtain ⟨z, hz⟩ := HB.out.2 k hlt
      have c0 := HK.out.cell k
      rw [hz] at c0
      have f0 := HK.out.frozen k
      clear hz
      go_wp2_with fail
      go_roundw
      case rel => exact ⟨k + 1, _, by omega, by go_num, HB.out.set k _, HK.out.set_ k _, hb.setCell (Nat.le_refl _) _⟩
      case measure => simp [intOf]; omega
    · obtain ⟨t, ht, hr⟩ := run_str_bytes HB.out HK.out
      have HT := Lib.hid ht
      clear ht
      go_wp2_with fail
      go_ret
      exact ⟨t, HT.out, rfl, hb⟩
end Go.Proofs.Ytepohmklbfkdfaa
