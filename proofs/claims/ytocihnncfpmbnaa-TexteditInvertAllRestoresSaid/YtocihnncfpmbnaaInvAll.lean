/- InvertAll returns the inverse edits, the last first. -/
import Derived.Test.YtocihnncfpmbnaaEds
import Derived.Test.YtocihnncfpmbnaaHull
import Derived.Test.YtocihnncfpmbnaaInvert
import Derived.Laws.MakeOwn
namespace Go.Proofs.Ytocihnncfpmbnaa
open Go.RowKit

def invs : ByteArray → List Ed → List Ed
  | _, [] => []
  | s, e :: l => inv s e :: invs (apT s e) l
def invAll (s : ByteArray) (l : List Ed) : List Ed := if (apAll s l).2 = 0 then (invs s l).reverse else []
theorem invs_length : ∀ (l : List Ed) (s : ByteArray), (invs s l).length = l.length
  | [], _ => rfl
  | e :: l, s => by simp [invs, invs_length l]
theorem apAll_append : ∀ (l m : List Ed) (s : ByteArray), (apAll s l).2 = 0 → apAll s (l ++ m) = apAll (apAll s l).1 m
  | [], _, _, _ => rfl
  | e :: l, m, s, h => by
    have hok := ok_first h
    rw [apAll_ok hok] at h ⊢
    rw [List.cons_append, apAll_ok hok]
    exact apAll_append l m _ h
theorem invs_append : ∀ (l m : List Ed) (s : ByteArray), (apAll s l).2 = 0 → invs s (l ++ m) = invs s l ++ invs (apAll s l).1 m
  | [], _, _, _ => rfl
  | e :: l, m, s, h => by
    have hok := ok_first h
    rw [apAll_ok hok] at h ⊢
    simp only [List.cons_append, invs]
    rw [invs_append l m _ h]
/-- Back through the inverses. -/
theorem back : ∀ (l : List Ed) (s : ByteArray), (apAll s l).2 = 0 → apAll (apAll s l).1 (invs s l).reverse = (s, 0) ∧ (invs (apAll s l).1 (invs s l).reverse).reverse = l
  | [], s, _ => ⟨rfl, rfl⟩
  | e :: l, s, h => by
    have hok := ok_first h
    rw [apAll_ok hok] at h ⊢
    obtain ⟨b1, b2⟩ := back l (apT s e) h
    have hz : (apAll (apAll (apT s e) l).1 (invs (apT s e) l).reverse).2 = 0 := by rw [b1]
    simp only [invs, List.reverse_cons]
    rw [apAll_append _ _ _ hz, invs_append _ _ _ hz, b1]
    simp only [invs, List.reverse_append, List.reverse_cons, List.reverse_nil, List.nil_append, List.cons_append]
    rw [apAll_ok (inv_ok hok), inv_apT hok, inv_inv hok, b2]
    exact ⟨rfl, rfl⟩
theorem inv_ins_le (s : ByteArray) (e : Ed) : (inv s e).ins.size ≤ s.size := by
  unfold inv
  split
  · simp only [ByteArray.size_extract]; omega
  · exact Nat.zero_le _
theorem sumIns_append (l m : List Ed) : sumIns (l ++ m) = sumIns l + sumIns m := by simp [sumIns]
theorem sumIns_reverse : ∀ l : List Ed, sumIns l.reverse = sumIns l
  | [] => rfl
  | e :: l => by
    rw [List.reverse_cons, sumIns_append, sumIns_reverse l]
    simp [sumIns]
    omega
theorem sumIns_invs : ∀ (l : List Ed) (s : ByteArray) (B : Nat), s.size + sumIns l ≤ B → sumIns (invs s l) ≤ l.length * B
  | [], _, _, _ => by simp [invs, sumIns]
  | e :: l, s, B, h => by
    have h1 := inv_ins_le s e
    have h2 := apT_size s e
    simp only [sumIns, List.map_cons, List.sum_cons] at h
    have h3 := sumIns_invs l (apT s e) B (by simp only [sumIns]; omega)
    simp only [sumIns] at h3
    simp only [invs, sumIns, List.map_cons, List.sum_cons, List.length_cons, Nat.succ_mul]
    omega

theorem eds_set : ∀ (l : List Ed) (i : Nat) (e : Ed), (((eds l).set (i * 3) (.int .i64 e.pos)).set (i * 3 + 1) (.int .i64 e.del)).set (i * 3 + 2) (.string e.ins) = eds (l.set i e)
  | [], _, _ => by simp [eds]
  | x :: l, 0, e => by simp [eds, Ed.cells]
  | x :: l, i + 1, e => by
    have := eds_set l i e
    simp only [eds, List.flatMap_cons, Ed.cells, List.set_cons_succ, List.cons_append, List.nil_append, Nat.succ_mul, Nat.add_assoc] at this ⊢
    rw [this]
theorem rep_set (m : Nat) (acc : List Ed) (e : Ed) : (List.replicate (m + 1) ed0 ++ acc).set m e = List.replicate m ed0 ++ e :: acc := by
  rw [List.replicate_succ', List.append_assoc, List.set_append_right _ _ (by simp)]
  simp
theorem Blk.set_ed {w : World} {g : Nat} {t : TypeId} {l : List Ed} (h : Blk w g t (eds l).toArray) (i : Nat) (e : Ed) :
    Blk (((w.setCell ⟨g, i * 3, none⟩ (.int .i64 e.pos)).setCell ⟨g, i * 3 + 1, none⟩ (.int .i64 e.del)).setCell ⟨g, i * 3 + 2, none⟩ (.string e.ins)) g t (eds (l.set i e)).toArray := by
  have := ((h.set_ (i * 3) (.int .i64 e.pos)).set_ (i * 3 + 1) (.int .i64 e.del)).set_ (i * 3 + 2) (.string e.ins)
  simp only [List.setIfInBounds_toArray] at this
  rw [eds_set] at this
  exact this
theorem madeCells_ed : ∀ n : Nat, (madeCells #[.int .i64 0, .int .i64 0, .string ⟨#[]⟩] (n * 3)) = (eds (List.replicate n ed0)).toArray := by
  intro n
  apply Array.ext
  · rw [size_madeCells, List.size_toArray, eds_length, List.length_replicate]
  · intro i h1 h2
    have hi : i < n * 3 := by rw [size_madeCells] at h1; exact h1
    have hd : (List.replicate n ed0)[i / 3]? = some ed0 := by rw [List.getElem?_replicate]; simp; omega
    have h4 := eds_at (List.replicate n ed0) (i / 3) _ (i % 3) hd (Nat.mod_lt _ (by omega))
    rw [show i / 3 * 3 + i % 3 = i by omega] at h4
    have e2 : (eds (List.replicate n ed0)).toArray[i]? = (Ed.cells ed0)[i % 3]? := by rw [List.getElem?_toArray]; exact h4
    have e1 : (madeCells #[.int .i64 0, .int .i64 0, .string ⟨#[]⟩] (n * 3))[i]? = (Ed.cells ed0)[i % 3]? := by
      unfold madeCells
      simp only [Array.getElem?_map, Array.getElem?_range, hi, if_true, Option.map_some]
      have : i % 3 < 3 := Nat.mod_lt _ (by omega)
      rcases (show i % 3 = 0 ∨ i % 3 = 1 ∨ i % 3 = 2 by omega) with h | h | h <;> simp [h, Ed.cells, ed0]
    rw [Array.getElem?_eq_getElem h1] at e1
    rw [Array.getElem?_eq_getElem h2] at e2
    rw [← e2] at e1
    exact Option.some.inj e1
theorem infoEd : (Try.prog.info? 23).map (fun i => (i.zero, i.size, i.bytes)) = some (some (.agg #[.int .i64 0, .int .i64 0, .string ⟨#[]⟩]), 3, 32) := by kernel_rfl
theorem run_make_ed (w : World) (n : Nat) (hn : n ≤ 1000000) : (Instr.makeSlice 26 (.int .i64 n) (.int .i64 n)).run Try.prog w = .ok (.slice (some ⟨w.heap.size, 0, none⟩) n n) (w.alloc (.cells (eds (List.replicate n ed0)).toArray 23)) := by
  obtain ⟨i0, hi0, hz0, hz1, hz2⟩ := info_parts infoEd
  have h := run_make (P := Try.prog) w 26 23 i0 (.agg #[.int .i64 0, .int .i64 0, .string ⟨#[]⟩]) Try.underlying26 hi0 hz0 .i64 .i64 n n (by omega) (by omega) (by rw [hz2]; omega) (by omega)
  rw [hz1] at h
  have hc : (Value.agg #[.int .i64 0, .int .i64 0, .string ⟨#[]⟩]).cells = #[.int .i64 0, .int .i64 0, .string ⟨#[]⟩] := rfl
  rw [hc, Int.toNat_natCast, madeCells_ed] at h
  exact h
end Go.Proofs.Ytocihnncfpmbnaa
