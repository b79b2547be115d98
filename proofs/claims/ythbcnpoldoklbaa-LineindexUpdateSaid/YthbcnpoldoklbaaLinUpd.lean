/- Update, the program's and the reference's. -/
import Derived.Test.YthbcnpoldoklbaaRepl
import Derived.Test.YthbcnpoldoklbaaLinSame
import Derived.Test.YthbcnpoldoklbaaLinJoin
namespace Go.Proofs.Ythbcnpoldoklbaa
open Go.RowKit

theorem apT_sz (s : ByteArray) (e : Ed) : (apT s e).size ≤ s.size + e.ins.size := by
  unfold apT
  split
  · rename_i h
    obtain ⟨h1, h2, h3, h4⟩ := Ed.ok_iff.1 h
    simp only [ByteArray.size_append, ByteArray.size_extract]
    omega
  · exact Nat.zero_le _
/-- What Update returns. -/
def RetUpd (s : ByteArray) (e : Ed) (w : World) (x : Ending) (w' : World) : Prop :=
  ∃ A n c, x = .returned (.tuple #[.agg #[.string (apT s e), .slice A n c], .int .i64 (apF s e)]) ∧ n ≤ maxLen ∧ (e.ok s.size = true → Reads w' w'.heap.size 1 A n (nats (starts (apT s e)))) ∧ Below w.heap.size w w'
theorem results_upd {fn : Func} {p q : Tmp} (h : fn.results = #[.cell p 25, .tmp q]) {tmps : Array Value} {b o : Nat} (hp : tmps.getD p undef = .pointer (some ⟨b, o, none⟩)) {w : World} {t : ByteArray} {A : Option Addr} {n c : Nat} {v : Value}
    (h0 : w.cell? ⟨b, o, none⟩ = some (.string t)) (h1 : w.cell? ⟨b, o + 1, none⟩ = some (.slice A n c)) (hv : tmps.getD q undef = v) :
    (results fn tmps).run Try.prog w = .ok (.tuple #[.agg #[.string t, .slice A n c], v]) w := by
  rw [results_cell_tmp h, hp, hv]
  simp [go_sem, asAddr, h0, h1]
/-- A block of another make than the slice's is written. -/
theorem Reads.far_blk {w : World} {B n g : Nat} {A : Option Addr} {l : List Nat} {ty : TypeId} {x : ByteArray} {a : Option Addr} {k m : Nat} (h : Reads w B 1 A n (nats l)) (K : Blk w g ty #[.string x, .slice a k m]) (v0 v1 : Value) :
    Reads ((w.setCell ⟨g, 0, none⟩ v0).setCell ⟨g, 1, none⟩ v1) B 1 A n (nats l) := by
  refine ⟨h.1, fun hn => ?_⟩
  obtain ⟨b, off, e, hb, hc⟩ := h.2 hn
  have hne : b ≠ g := by
    rintro rfl
    have hl : 0 < (nats l).length := by have := h.1; omega
    have h0 := hc 0 _ (List.getElem?_eq_getElem hl)
    rw [K.cell] at h0
    have hv : ∃ z : Int, (nats l)[0]'hl = .int .i64 z := by
      simp only [nats, List.getElem_map]
      exact ⟨_, rfl⟩
    obtain ⟨z, hz⟩ := hv
    rw [hz] at h0
    match off, h0 with
    | 0, h0 => simp at h0
    | 1, h0 => simp at h0
    | o + 2, h0 => simp at h0
  refine ⟨b, off, e, hb, fun j u hu => ?_⟩
  rw [World.cell?_setCell_other _ _ _ _ (by first | (simp; done) | (simp; omega)), World.cell?_setCell_other _ _ _ _ (by first | (simp; done) | (simp; omega))]
  exact hc j u hu

set_option maxRecDepth 100000 in
set_option maxHeartbeats 1000000 in
theorem update_any (s : ByteArray) (v : Value) (a b : Int) (t : ByteArray) (w : World) (hs : s.size + t.size ≤ 1048576) (hv : ∃ A n c, v = .slice A n c) :
    Calls Try.prog 20 #[.agg #[.string s, v], .agg #[.int .i64 a, .int .i64 b, .string t]] w (RetUpd s ⟨a, b, t⟩ w) := by
  obtain ⟨A, n, c, rfl⟩ := hv
  have hsz := apT_sz s ⟨a, b, t⟩
  simp only at hsz
  have K0 := ((Blk.new' w 25 #[.string s, .slice A n c] rfl).alloc (.cells #[.int .i64 a, .int .i64 b, .string t] 47)).alloc (.cells #[.string ⟨#[]⟩, .slice none 0 0] 25)
  have R0 := Blk.new' (g := w.heap.size + 1 + 1) ((w.alloc (.cells #[.string s, .slice A n c] 25)).alloc (.cells #[.int .i64 a, .int .i64 b, .string t] 47)) 25 #[.string ⟨#[]⟩, .slice none 0 0] (by simp)
  have hb0 : Below w.heap.size w (((w.alloc (.cells #[.string s, .slice A n c] 25)).alloc (.cells #[.int .i64 a, .int .i64 b, .string t] 47)).alloc (.cells #[.string ⟨#[]⟩, .slice none 0 0] 25)) := (((Below.refl _ _).alloc (Nat.le_refl _) _).alloc (by simp) _).alloc (by simp <;> omega) _
  cases hok : Ed.ok s.size ⟨a, b, t⟩ with
  | false =>
    have HT := Lib.hid (show apT s ⟨a, b, t⟩ = ⟨#[]⟩ by simp [apT, hok])
    have HF := Lib.hid (show apF s ⟨a, b, t⟩ = 2 by simp [apF, hok])
    have HK := Lib.hid hok
    clear hok
    go_enter Try.func20, Try.ntmps20
    go_wp2_with fail
    refine (apply_any s a b t _ (by omega)).mono ?_
    rw [HT.out, HF.out]
    rintro e w1 ⟨rfl, hb1⟩
    simp only [World.size_alloc] at hb1
    have hs1 := hb1.size
    simp only [World.size_alloc] at hs1
    have R1 := R0.below hb1 (by omega)
    have hbb := hb0.trans (hb1.mono (by omega))
    have r0 := R1.cell 0
    have r1 := R1.cell 1
    have f0 := R1.frozen 0
    have f1 := R1.frozen 1
    simp at r0 r1
    have R2 := R1.set2 (.string ⟨#[]⟩) (.slice none 0 0)
    go_wp2_with fail
    refine bodyPost_ret (results_upd rfl rfl (R2.cell 0) (R2.cell 1) rfl) rfl ⟨none, 0, 0, ?_, by unfold maxLen; omega, ?_, (hbb.setCell (by simp; omega) _).setCell (by simp; omega) _⟩
    · rw [HT.out, HF.out]; rfl
    · intro h
      rw [HK.out] at h
      cases h
  | true =>
    obtain ⟨T, hT⟩ : ∃ T, apT s ⟨a, b, t⟩ = T := ⟨_, rfl⟩
    rw [hT] at hsz
    have HT := Lib.hid hT
    have HF := Lib.hid (show apF s ⟨a, b, t⟩ = 0 by simp [apF, hok])
    clear hok hT
    go_enter Try.func20, Try.ntmps20
    go_wp2_with fail
    refine (apply_any s a b t _ (by omega)).mono ?_
    rw [HT.out, HF.out]
    rintro e w1 ⟨rfl, hb1⟩
    simp only [World.size_alloc] at hb1
    have hs1 := hb1.size
    simp only [World.size_alloc] at hs1
    have R1 := R0.below hb1 (by omega)
    have hbb := hb0.trans (hb1.mono (by omega))
    clear hb1 hb0 R0 K0
    go_wp2_with fail
    refine (new_any T _ (by omega)).mono ?_
    rintro e w2 ⟨A2, n2, c2, rfl, hn2, Q2, hb2⟩
    have hs2 := hb2.size
    have R2 := R1.below hb2 (by omega)
    have hbb2 := hbb.trans (hb2.mono (by omega))
    have HQ := Lib.hid Q2
    have r0 := R2.cell 0
    have r1 := R2.cell 1
    have f0 := R2.frozen 0
    have f1 := R2.frozen 1
    simp at r0 r1
    have R3 := R2.set2 (.string T) (.slice A2 n2 c2)
    clear Q2
    go_wp2_with fail
    refine bodyPost_ret (results_upd rfl rfl (R3.cell 0) (R3.cell 1) rfl) rfl ⟨A2, n2, c2, ?_, hn2, fun _ => ?_, (hbb2.setCell (by simp; omega) _).setCell (by simp; omega) _⟩
    · rw [HT.out, HF.out]; rfl
    · rw [HT.out]
      have := HQ.out.far_blk R2 (.string T) (.slice A2 n2 c2)
      simpa using this

set_option maxHeartbeats 1000000 in
theorem refUpdate_any (s : ByteArray) (a b : Int) (t : ByteArray) (w : World) (hs : s.size + t.size ≤ 9223372036854775807) :
    Calls Try.prog 21 #[.string s, .agg #[.int .i64 a, .int .i64 b, .string t]] w fun e w' => e = .returned (.tuple #[.string (apT s ⟨a, b, t⟩), .int .i64 (apF s ⟨a, b, t⟩)]) ∧ Below w.heap.size w w' := by
  go_enter Try.func21, Try.ntmps21
  go_wp2_with fail
  refine (repl_any s a b t _ hs).mono ?_
  rintro e w1 ⟨rfl, hb1⟩
  go_wp2_with fail
  go_ret2
  exact ⟨rfl, ((Below.refl _ _).alloc (Nat.le_refl _) _).trans (hb1.mono (by simp))⟩
end Go.Proofs.Ythbcnpoldoklbaa
