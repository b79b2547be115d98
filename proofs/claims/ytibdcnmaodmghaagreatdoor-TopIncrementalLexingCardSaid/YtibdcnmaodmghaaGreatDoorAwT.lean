/- Contracts of the functions that were run. -/
import Derived.Test.YtibdcnmaodmghaaGreatDoorAw
section
namespace Go.Proofs
open Go.RowKit Go.Ev Go.Proofs.YtibdcnmaodmghaaGreatDoor
/-- Nothing that was there has turned, but for block 1. -/
structure Aft (w w' : World) : Prop where
  os : w'.os = w.os
  tape : w'.tape = w.tape
  output : w'.output = w.output
  size : w.heap.size ≤ w'.heap.size
  keep : ∀ b, b < w.heap.size → b ≠ 1 → w'.heap[b]? = w.heap[b]?
theorem Aft.refl (w : World) : Aft w w := ⟨rfl, rfl, rfl, Nat.le_refl _, fun _ _ _ => rfl⟩
theorem Aft.trans {w w1 w2 : World} (h : Aft w w1) (k : Aft w1 w2) : Aft w w2 :=
  ⟨k.os.trans h.os, k.tape.trans h.tape, k.output.trans h.output, Nat.le_trans h.size k.size, fun b hb h1 => (k.keep b (Nat.lt_of_lt_of_le hb h.size) h1).trans (h.keep b hb h1)⟩
def Tryz.gnum : Nat := 4
theorem Tryz.gsize : Tryz.prog.globals.size = Tryz.gnum := by kernel_rfl
/-- The globals alone. -/
def Tryz.r0 : Rho := fun g => if g < Tryz.gnum then some (g, 0) else none
/-- The names of the layout terms lie in block 1. -/
def Lay (w : World) : Prop := ∃ ty fr, w.heap[1]? = some (.cells #[.string (Go.Ev.strOf [110,101,119,108,105,110,101]), .string (Go.Ev.strOf [105,110,100,101,110,116]), .string (Go.Ev.strOf [100,101,100,101,110,116])] ty fr) ∧ ∀ i, i < 3 → ¬(fr.1 ≤ i ∧ i < fr.2)
theorem b0_get {id : Nat} {o : AO} (h : (addB .nil Tryz.b0).get id = some o) : id = 1 ∧ o = (LO.row 3 true 0 (aL [.s [110,101,119,108,105,110,101], .s [105,110,100,101,110,116], .s [100,101,100,101,110,116]])).ao := by
  rcases addB_get h with ⟨p, hp, h1, h2⟩ | h1
  · simp only [Tryz.b0, List.mem_singleton] at hp
    subst hp
    exact ⟨h1.symm, h2.symm⟩
  · cases h1
theorem r0_one : Tryz.r0 1 = some (1, 0) := rfl
theorem rel0 {w : World} (h : Lay w) : Rel Tryz.prog Tryz.r0 (addB .nil Tryz.b0).get w := by
  obtain ⟨ty, fr, h1, h2⟩ := h
  refine ⟨fun g hg => ?_, fun id m kn tp c b K e1 e2 => ?_, fun id es b K e1 e2 => ?_, fun id id' o o' p p' e1 e2 e3 e4 e5 => ?_⟩
  · rw [Tryz.gsize] at hg
    exact if_pos hg
  · obtain ⟨rfl, e3⟩ := b0_get e1
    cases e3
    rw [r0_one] at e2
    cases e2
    refine ⟨_, ty, fr, h1, fun i hi => h2 i (by simpa using hi), rfl, fun i v hv => ?_⟩
    rcases setCells_get hv with ⟨j, j1, j2, j3⟩ | ⟨j1, _⟩
    · have hj : i = j := by omega
      subst hj
      have j1 : i < 3 := j1
      have : i = 0 ∨ i = 1 ∨ i = 2 := by omega
      rcases this with rfl | rfl | rfl
      all_goals
        cases j3
        refine ⟨fun x hx => by simp at hx; omega, rfl, rfl, fun h => by cases h⟩
    · cases j1
  · obtain ⟨_, e3⟩ := b0_get e1
    cases e3
  · exact (b0_get e1).1.trans (b0_get e2).1.symm
theorem lay_of {r : Rho} {w : World} {H : Hf} (hR : Rel Tryz.prog r H w) (hext : Go.Ev.Ext Tryz.r0 r) (hH : ∀ p ∈ Tryz.b0, ∃ o, H p.1 = some o ∧ Le p.2.ao o) : Lay w := by
  have h1 := hext 1 _ r0_one
  have hp := hH _ (List.mem_singleton.2 rfl)
  obtain ⟨g1, g2⟩ := row_lies hR hp (by show (r 1).isSome = true; rw [h1]; rfl) (by kernel_rfl)
  obtain ⟨o, e1, e2⟩ := hp
  cases o with
  | map es => exact e2.elim
  | row m' kn' tp' c' =>
    obtain ⟨rfl, rfl, rfl, e5⟩ := e2
    obtain ⟨cs, ty, fr, f1, f2, f3, f4⟩ := hR.row 1 _ _ _ c' _ _ e1 h1
    have f3 : cs.size = 3 := f3
    have hb : r.blk 1 = 1 := by simp [Rho.blk, h1]
    rw [hb] at g1 g2
    have c0 := (g2 0 _ rfl).1
    have c1 := (g2 1 _ rfl).1
    have c2 := (g2 2 _ rfl).1
    rw [cell_of_row w 1 _ cs ty fr f1] at c0 c1 c2
    refine ⟨ty, fr, ?_, fun i hi => f2 i (by omega)⟩
    rw [f1]
    congr 2
    apply Array.ext_getElem?
    intro i
    have : i = 0 ∨ i = 1 ∨ i = 2 ∨ 3 ≤ i := by omega
    rcases this with rfl | rfl | rfl | h3
    · rw [c0]; rfl
    · rw [c1]; rfl
    · rw [c2]; rfl
    · rw [Array.getElem?_eq_none (by omega), Array.getElem?_eq_none (by simpa using h3)]
theorem fresh0 (n' : Nat) : Fresh Tryz.r0 10 n' := fun id h1 _ => if_neg (by simp only [Tryz.gnum]; omega)
theorem aft_of {r' : Rho} {H' : Hf} {w w' : World} {n' : Nat} (h : Stp Tryz.r0 (addB .nil Tryz.b0).get 10 w r' H' n' w') : Aft w w' :=
  ⟨h.os.1, h.tape, h.output, h.size, fun b hb h1 => h.keep b hb fun id o p e1 e2 e3 => by
    obtain ⟨rfl, _⟩ := b0_get e1
    rw [r0_one] at e2
    cases e2
    exact h1 e3.symm⟩
/-- Block 1 stands too. -/
theorem below_of {w w' : World} (h : Aft w w') (hk : KeepK w w') (hL : Lay w) (hL' : Lay w') : Below w.heap.size w w' := by
  refine ⟨h.os, h.tape, h.output, h.size, fun b hb => ?_⟩
  by_cases h1 : b = 1
  · subst h1
    obtain ⟨ty, fr, e, _⟩ := hL
    obtain ⟨ty', fr', e', _⟩ := hL'
    obtain ⟨cs, _, e2⟩ := hk 1 _ ty fr e
    rw [e'] at e2
    injection e2 with e2
    injection e2 with q1 q2 q3
    rw [e', e, q2, q3]
  · exact h.keep b hb h1
theorem Tryz.awake_any (w : World) (hL : Lay w) : Calls Tryz.prog 6 #[] w fun e w' => e = .returned (.bool true) ∧ Below w.heap.size w w' ∧ Lay w' := by
  have hrun := Tryz.awake_run
  cases hx : Tryz.E4 6 .nil (addB .nil Tryz.b0) 10 with
  | bad => rw [hx] at hrun; cases hrun
  | ok v B n =>
    rw [hx] at hrun
    have hrun : and (decide (v = .b true)) (inB B Tryz.b0) = true := hrun
    rw [Bool.and_eq_true, decide_eq_true_eq] at hrun
    obtain ⟨rfl, hin⟩ := hrun
    refine (calls_of_fns (enters_of Tryz.func6 (by kernel_rfl) rfl) (Tryz.E4_sound _ _ _ _ _ _ _ hx) (rel0 hL) trivial (fresh0 n)).mono ?_
    rintro e w' ⟨r', h1, h2, h3, rfl⟩
    have hL' := lay_of h2 h1.ext (inB_at hin)
    exact ⟨rfl, below_of (aft_of h1) h1.os.2 hL hL', hL'⟩
/-- The specification of the words is there. -/
def Mid (w0 : World) (u : Value) (w1 : World) : Prop := ∃ v B n r, Tryz.E4 8 .nil (addB .nil Tryz.b0) 10 = .ok v B n ∧ Stp Tryz.r0 (addB .nil Tryz.b0).get 10 w0 r B.get n w1 ∧ Rel Tryz.prog r B.get w1 ∧ ok r v ∧ u = conc r v
theorem Tryz.words_any (w : World) (hL : Lay w) : Calls Tryz.prog 8 #[] w fun e w' => ∃ u, e = .returned u ∧ Mid w u w' := by
  have hrun := Tryz.compile_run
  cases hx : Tryz.E4 8 .nil (addB .nil Tryz.b0) 10 with
  | bad => rw [hx] at hrun; cases hrun
  | ok v B n =>
    refine (calls_of_fns (enters_of Tryz.func8 (by kernel_rfl) rfl) (Tryz.E4_sound _ _ _ _ _ _ _ hx) (rel0 hL) trivial (fresh0 n)).mono ?_
    rintro e w' ⟨r', h1, h2, h3, rfl⟩
    exact ⟨_, rfl, v, B, n, r', hx, h1, h2, h3, rfl⟩
theorem Tryz.compile_any (w0 w : World) (u : Value) (hL : Lay w0) (h : Mid w0 u w) : Calls Tryz.prog 7 #[u] w fun e w' => ∃ v : DfaV, e = .returned (.tuple #[.agg #[.slice v.Ac v.nc v.cc, .slice v.An v.nn v.cn, .slice v.Aa v.na v.ca], .int .i64 0]) ∧ DfaAt w' w'.heap.size v Tryz.dfa0 ∧ Below w0.heap.size w0 w' := by
  obtain ⟨v, B, n, r, hx, h1, h2, h3, rfl⟩ := h
  have hrun := Tryz.compile_run
  rw [hx] at hrun
  have hrun : cmpB (Tryz.b0 ++ Tryz.dhl) (Tryz.E4 7 (.cons v .nil) B n) = true := hrun
  cases hy : Tryz.E4 7 (.cons v .nil) B n with
  | bad => rw [hy] at hrun; cases hrun
  | ok v2 B2 n2 =>
    rw [hy] at hrun
    have hrun : and (decide (v2 = .tu (aL [Tryz.dav, .i .i64 (.ofNat 0)]))) (inB B2 (Tryz.b0 ++ Tryz.dhl)) = true := hrun
    rw [Bool.and_eq_true, decide_eq_true_eq] at hrun
    obtain ⟨rfl, hin⟩ := hrun
    have hfr : Fresh r n n2 := by
      intro id hid _
      cases e : r id with
      | none => rfl
      | some p =>
        have hn := h1.le
        rcases h1.dom id (by rw [e]; rfl) with h4 | h4
        · have : ¬ id < Tryz.gnum := by simp only [Tryz.gnum]; omega
          rw [show Tryz.r0 id = none from if_neg this] at h4
          cases h4
        · omega
    refine (calls_of_fns (enters_of Tryz.func7 (by kernel_rfl) rfl) (Tryz.E4_sound _ _ _ _ _ _ _ hy) h2 ⟨h3, trivial⟩ hfr).mono ?_
    rintro e w' ⟨r', g1, g2, g3, rfl⟩
    exact ⟨Tryz.dv r', rfl, Tryz.dfa_at g2 (fun p hp => inB_at hin p (List.mem_append_right _ hp)) g3.1, below_of (aft_of (h1.trans g1)) (h1.trans g1).os.2 hL (lay_of g2 (h1.trans g1).ext (fun p hp => inB_at hin p (List.mem_append_left _ hp)))⟩
end Go.Proofs
end
