/- Steps as data and in memory; run: one step on a history. -/
import Derived.Test.YtepohmklbfkdfaaUDo
namespace Go.Proofs.Ytepohmklbfkdfaa
open Go.RowKit

def St.cells (x : St) : List Value := [.int .u8 x.k, .int .i64 x.e.pos, .int .i64 x.e.del, .string x.e.ins]
def sts (l : List St) : List Value := l.flatMap St.cells
theorem sts_length (l : List St) : (sts l).length = l.length * 4 := by
  induction l with
  | nil => rfl
  | cons t l ih => simp only [sts, List.flatMap_cons, List.length_append] at *; rw [ih]; simp [St.cells]; omega
theorem sts_at : ∀ (l : List St) (k : Nat) (t : St) (j : Nat), l[k]? = some t → j < 4 → (sts l)[k * 4 + j]? = t.cells[j]?
  | [], _, _, _, h, _ => by simp at h
  | x :: l, 0, t, j, h, hj => by
    simp at h
    subst h
    simp only [sts, List.flatMap_cons]
    rw [List.getElem?_append_left (by simp [St.cells]; omega)]
    simp
  | x :: l, k + 1, t, j, h, hj => by
    simp at h
    have := sts_at l k t j h hj
    simp only [sts, List.flatMap_cons] at *
    rw [List.getElem?_append_right (by simp [St.cells]; omega)]
    rw [← this]
    congr 1
    simp [St.cells]; omega
section
variable {w : World} {B n : Nat} {A : Option Addr} {l : List St}
theorem Reads.len_sts (h : Reads w B 4 A n (sts l)) : l.length = n := by have := h.1; rw [sts_length] at this; omega
theorem Reads.st_at (h : Reads w B 4 A n (sts l)) {k : Nat} (hk : k < n) :
    ∃ b off t, A = some ⟨b, off, none⟩ ∧ b < B ∧ l[k]? = some t ∧ w.cell? ⟨b, off + k * 4, none⟩ = some (.int .u8 t.k) ∧ w.cell? ⟨b, off + k * 4 + 1, none⟩ = some (.int .i64 t.e.pos) ∧
      w.cell? ⟨b, off + k * 4 + 2, none⟩ = some (.int .i64 t.e.del) ∧ w.cell? ⟨b, off + k * 4 + 3, none⟩ = some (.string t.e.ins) := by
  obtain ⟨b, off, e, hb, hc⟩ := h.2 (by omega)
  have hl : k < l.length := by rw [h.len_sts]; exact hk
  have ht := List.getElem?_eq_getElem hl
  refine ⟨b, off, l[k], e, hb, ht, ?_, ?_, ?_, ?_⟩
  · have := hc (k * 4 + 0) (.int .u8 l[k].k) (by rw [sts_at l k _ 0 ht (by omega)]; rfl)
    simpa using this
  · have := hc (k * 4 + 1) (.int .i64 l[k].e.pos) (by rw [sts_at l k _ 1 ht (by omega)]; rfl)
    simpa [Nat.add_assoc] using this
  · have := hc (k * 4 + 2) (.int .i64 l[k].e.del) (by rw [sts_at l k _ 2 ht (by omega)]; rfl)
    simpa [Nat.add_assoc] using this
  · have := hc (k * 4 + 3) (.string l[k].e.ins) (by rw [sts_at l k _ 3 ht (by omega)]; rfl)
    simpa [Nat.add_assoc] using this
end

theorem HPost.alloc {F : Nat → Prop} {w w1 : World} {g : Nat} {h : HS} {o : Obj} (hp : HPost (w.alloc o) F g h w1) : HPost w F g h w1 := by
  obtain ⟨G, h1, h2, h3⟩ := hp
  exact ⟨G, h1, ((Touch.refl F w).alloc o).trans h2 (fun k hk => .inl hk), fun k hk => (h3 k hk).imp id (fun h => by simp at h; omega)⟩
theorem res_keep' {F : Nat → Prop} {w w1 : World} {g g2 : Nat} {h : HS} {cs : Array Value} {t : TypeId} (hp : HPost w F g h w1) (hF : ∀ k, F k → k ≠ g2) (K : Blk w g2 t cs) : Blk w1 g2 t cs := by
  obtain ⟨G, h1, h2, h3⟩ := hp
  exact K.touch h2 (fun hk => by have := hF _ hk; omega)
/-- Behind the call a block apart is written. -/
theorem HPost.out' {F : Nat → Prop} {w w1 w2 : World} {g N : Nat} {h : HS} (hp : HPost w F g h w1) (hF : ∀ k, F k → k < N) (hN : N < w.heap.size) (ht : Touch (fun k => k = N) w1 w2) : ∃ G : Nat → Prop, Hist w2 G g h ∧ Touch (fun k => F k ∨ k = N) w w2 ∧ ∀ k, G k → F k ∨ w.heap.size ≤ k := by
  obtain ⟨G, h1, h2, h3⟩ := hp
  refine ⟨G, h1.touch ht (fun k hk e => ?_), (h2.mono (fun k hk => .inl hk)).trans ht (fun k hk => .inl (.inr hk)), h3⟩
  rcases h3 k hk with h | h
  · have := hF k h; omega
  · omega
/-- .. where the block was made by the call itself. -/
theorem HPost.fin {F : Nat → Prop} {w W w1 w2 : World} {g N : Nat} {h : HS} (hp : HPost W F g h w1) (hF : ∀ k, F k → k < w.heap.size) (hb : Below w.heap.size w W) (hN : w.heap.size ≤ N) (hN2 : N < W.heap.size) (ht : Touch (fun k => k = N) w1 w2) : HPost w F g h w2 := by
  obtain ⟨G, h1, h2, h3⟩ := hp
  have hsz := hb.size
  refine ⟨G, h1.touch ht (fun k hk e => ?_), ((Touch.of_below hb).trans h2 (fun k hk => .inl hk)).trans ht (fun k hk => by right; omega), fun k hk => (h3 k hk).imp id (fun h => by omega)⟩
  rcases h3 k hk with h | h
  · have := hF k h; omega
  · omega

set_option maxRecDepth 100000 in
set_option maxHeartbeats 2000000 in
theorem run_any (F : Nat → Prop) (g : Nat) (h : HS) (k : Nat) (a b : Int) (s : ByteArray) (w : World) (hh : Hist w F g h) (hs : h.Small 1048576 900) (hsz : s.size ≤ 1048576) (hv : h.v ≤ 1000000) :
    Calls Try.prog 12 #[.pointer (some ⟨g, 0, none⟩), .agg #[.int .u8 k, .int .i64 a, .int .i64 b, .string s]] w
      fun e w' => e = .returned (.tuple #[.agg #[.int .i64 (stepX h ⟨k, ⟨a, b, s⟩⟩).pos, .int .i64 (stepX h ⟨k, ⟨a, b, s⟩⟩).del, .string (stepX h ⟨k, ⟨a, b, s⟩⟩).ins], .int .i64 (stepE h ⟨k, ⟨a, b, s⟩⟩)]) ∧ HPost w F g (stepH h ⟨k, ⟨a, b, s⟩⟩) w' := by
  obtain ⟨F0, hF0, hh0⟩ := hh.precise
  have HW := Lib.hid (show ∀ h' w', HPost w F0 g h' w' → HPost w F g h' w' from fun h' w' hp => hp.weak (fun k hk => (hF0 k hk).1))
  have HLT := Lib.hid (show ∀ k, F0 k → k < w.heap.size from fun k hk => (hF0 k hk).2)
  clear hh hF0
  have B1 := (Blk.new' w 36 #[.int .u8 k, .int .i64 a, .int .i64 b, .string s] rfl).alloc (.cells #[.int .i64 0, .int .i64 0, .string ⟨#[]⟩] 31)
  have R1 := Blk.new' (g := w.heap.size + 1) (w.alloc (.cells #[.int .u8 k, .int .i64 a, .int .i64 b, .string s] 36)) 31 #[.int .i64 0, .int .i64 0, .string ⟨#[]⟩] (by simp)
  have hb1 : Below w.heap.size w ((w.alloc (.cells #[.int .u8 k, .int .i64 a, .int .i64 b, .string s] 36)).alloc (.cells #[.int .i64 0, .int .i64 0, .string ⟨#[]⟩] 31)) := ((Below.refl _ _).alloc (Nat.le_refl _) _).alloc (by simp) _
  have hh1 := (hh0.alloc (.cells #[.int .u8 k, .int .i64 a, .int .i64 b, .string s] 36)).alloc (.cells #[.int .i64 0, .int .i64 0, .string ⟨#[]⟩] 31)
  have HH := Lib.hid hh1
  clear hh0 hh1
  have m0 : (k : Int) % 3 = ((k % 3 : Nat) : Int) := by omega
  have m1 : k % 3 < 3 := Nat.mod_lt _ (by omega)
  rcases (show k % 3 = 1 ∨ k % 3 = 2 ∨ k % 3 = 0 by omega) with hk | hk | hk
  · have t1 : ((k : Int) % 3 == 1) = true := by rw [m0, hk]; rfl
    have HE := Lib.hid (show stepE h ⟨k, ⟨a, b, s⟩⟩ = undoE h ∧ stepX h ⟨k, ⟨a, b, s⟩⟩ = undoX h ∧ stepH h ⟨k, ⟨a, b, s⟩⟩ = undoH h by simp [stepE, stepX, stepH, hk])
    clear m0 hk
    rw [HE.out.1, HE.out.2.1, HE.out.2.2]
    go_enter Try.func12, Try.ntmps12
    go_wp2_with fail
    refine (undo_any F0 g h _ HH.out hs hv).mono ?_
    rintro e w1 ⟨rfl, hp⟩
    have R2 := res_keep' hp (fun k hk => by have := HLT.out k hk; omega) R1
    have r0 := R2.cell 0
    have r1 := R2.cell 1
    have r2 := R2.cell 2
    have f0 := R2.frozen 0
    have f1 := R2.frozen 1
    have f2 := R2.frozen 2
    simp at r0 r1 r2
    have HP := Lib.hid hp
    clear hp
    go_wp2_with fail
    have R3 := R2.set3 (.int .i64 (undoX h).pos) (.int .i64 (undoX h).del) (.string (undoX h).ins)
    refine bodyPost_ret (results_edit_int rfl rfl (R3.cell 0) (R3.cell 1) (R3.cell 2) rfl) rfl ⟨rfl, ?_⟩
    exact HW.out _ _ (HP.out.fin HLT.out hb1 (Nat.le_succ _) (by simp) (set3_touch _ _ _))
  · have t1 : ((k : Int) % 3 == 1) = false := by rw [m0, hk]; rfl
    have t2 : ((k : Int) % 3 == 2) = true := by rw [m0, hk]; rfl
    have HE := Lib.hid (show stepE h ⟨k, ⟨a, b, s⟩⟩ = redoE h ∧ stepX h ⟨k, ⟨a, b, s⟩⟩ = redoX h ∧ stepH h ⟨k, ⟨a, b, s⟩⟩ = redoH h by simp [stepE, stepX, stepH, hk])
    clear m0 hk
    rw [HE.out.1, HE.out.2.1, HE.out.2.2]
    go_enter Try.func12, Try.ntmps12
    go_wp2_with fail
    refine (redo_any F0 g h _ HH.out hs hv).mono ?_
    rintro e w1 ⟨rfl, hp⟩
    have R2 := res_keep' hp (fun k hk => by have := HLT.out k hk; omega) R1
    have r0 := R2.cell 0
    have r1 := R2.cell 1
    have r2 := R2.cell 2
    have f0 := R2.frozen 0
    have f1 := R2.frozen 1
    have f2 := R2.frozen 2
    simp at r0 r1 r2
    have HP := Lib.hid hp
    clear hp
    go_wp2_with fail
    have R3 := R2.set3 (.int .i64 (redoX h).pos) (.int .i64 (redoX h).del) (.string (redoX h).ins)
    refine bodyPost_ret (results_edit_int rfl rfl (R3.cell 0) (R3.cell 1) (R3.cell 2) rfl) rfl ⟨rfl, ?_⟩
    exact HW.out _ _ (HP.out.fin HLT.out hb1 (Nat.le_succ _) (by simp) (set3_touch _ _ _))
  · have t1 : ((k : Int) % 3 == 1) = false := by rw [m0, hk]; rfl
    have t2 : ((k : Int) % 3 == 2) = false := by rw [m0, hk]; rfl
    have b0 := B1.cell 1
    have b1 := B1.cell 2
    have b2 := B1.cell 3
    simp at b0 b1 b2
    have HE := Lib.hid (show stepE h ⟨k, ⟨a, b, s⟩⟩ = doE h ⟨a, b, s⟩ ∧ stepX h ⟨k, ⟨a, b, s⟩⟩ = (if doE h ⟨a, b, s⟩ = 0 then ⟨a, b, s⟩ else ed0) ∧ stepH h ⟨k, ⟨a, b, s⟩⟩ = doH h ⟨a, b, s⟩ by simp [stepE, stepX, stepH, hk])
    clear m0 hk
    rw [HE.out.1, HE.out.2.1, HE.out.2.2]
    obtain ⟨E, hE⟩ : ∃ E, doE h ⟨a, b, s⟩ = E := ⟨_, rfl⟩
    rw [hE]
    have HEE := Lib.hid hE
    clear hE
    by_cases hz : E = 0
    · subst hz
      rw [if_pos rfl]
      go_enter Try.func12, Try.ntmps12
      go_wp2_with fail
      refine (do_any F0 g h a b s _ HH.out hs hsz hv).mono ?_
      rw [HEE.out]
      rintro e w1 ⟨rfl, hp⟩
      have R2 := res_keep' hp (fun k hk => by have := HLT.out k hk; omega) R1
      have B2 := res_keep' hp (fun k hk => by have := HLT.out k hk; omega) B1
      have r0 := R2.cell 0
      have r1 := R2.cell 1
      have r2 := R2.cell 2
      have f0 := R2.frozen 0
      have f1 := R2.frozen 1
      have f2 := R2.frozen 2
      have c0 := B2.cell 1
      have c1 := B2.cell 2
      have c2 := B2.cell 3
      simp at r0 r1 r2 c0 c1 c2
      have HP := Lib.hid hp
      clear hp
      go_wp2_with fail
      have R3 := R2.set3 (.int .i64 a) (.int .i64 b) (.string s)
      refine bodyPost_ret (results_edit_int rfl rfl (R3.cell 0) (R3.cell 1) (R3.cell 2) rfl) rfl ⟨rfl, ?_⟩
      exact HW.out _ _ (HP.out.fin HLT.out hb1 (Nat.le_succ _) (by simp) (set3_touch _ _ _))
    · have hz1 : (E != 0) = true := by simp [hz]
      rw [if_neg hz]
      go_enter Try.func12, Try.ntmps12
      go_wp2_with fail
      refine (do_any F0 g h a b s _ HH.out hs hsz hv).mono ?_
      rw [HEE.out]
      rintro e w1 ⟨rfl, hp⟩
      have R2 := res_keep' hp (fun k hk => by have := HLT.out k hk; omega) R1
      have r0 := R2.cell 0
      have r1 := R2.cell 1
      have r2 := R2.cell 2
      have f0 := R2.frozen 0
      have f1 := R2.frozen 1
      have f2 := R2.frozen 2
      simp at r0 r1 r2
      have HP := Lib.hid hp
      clear hp
      go_wp2_with fail
      have R3 := R2.set3 (.int .i64 0) (.int .i64 0) (.string ⟨#[]⟩)
      refine bodyPost_ret (results_edit_int rfl rfl (R3.cell 0) (R3.cell 1) (R3.cell 2) rfl) rfl ⟨rfl, ?_⟩
      exact HW.out _ _ (HP.out.fin HLT.out hb1 (Nat.le_succ _) (by simp) (set3_touch _ _ _))
end Go.Proofs.Ytepohmklbfkdfaa
