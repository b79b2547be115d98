/- The lexer under the table that Compile makes. -/
import Derived.Test.YtibdcnmaodmghaaGreatDoorEvF
import Derived.Test.YtibdcnmaodmghaaGreatDoorTabD
import Derived.Test.YtibdcnmaodmghaaGreatDoorBase
import Derived.Test.YtibdcnmaodmghaaGreatDoorTabS
section
namespace Go.Proofs
open Go.RowKit Go.Ev Go.Proofs.YtibdcnmaodmghaaGreatDoor
set_option maxRecDepth 20000
theorem nth_iL : ∀ (L : List Nat) (j : Nat) {x : Nat}, L[j]? = some x → AV.nth j (iL L) = some (.i .i64 (iOf x))
  | y :: L, 0, x, h => by
    cases (show some y = some x by simpa using h)
    rfl
  | y :: L, j + 1, x, h => by
    show AV.nth (j + 1) (.cons _ (iL L)) = _
    rw [nth_succ]
    exact nth_iL L j (by simpa using h)
theorem nth_aL : ∀ (L : List AV) (j : Nat) {x : AV}, L[j]? = some x → AV.nth j (aL L) = some x
  | y :: L, 0, x, h => by
    cases (show some y = some x by simpa using h)
    rfl
  | y :: L, j + 1, x, h => by
    show AV.nth (j + 1) (.cons _ (aL L)) = _
    rw [nth_succ]
    exact nth_aL L j (by simpa using h)
section
variable {P : Program} {r : Rho} {w : World} {H : Hf}
theorem row_lies (hR : Rel P r H w) {id m tp : Nat} {kn : Bool} {l : AV} (hH : ∃ o, H id = some o ∧ Le (LO.row m kn tp l).ao o) (hs : (r id).isSome = true) (hc : Go.Ev.cellsIn l (setCells l .nil 0) 0 = true) :
    r.blk id < w.heap.size ∧ ∀ j v, AV.nth j l = some v → w.cell? ⟨r.blk id, j, none⟩ = some (conc r v) ∧ ok r v := by
  obtain ⟨o, h1, h2⟩ := hH
  cases o with
  | map es => exact h2.elim
  | row m' kn' tp' c' =>
    obtain ⟨_, _, _, h5⟩ := h2
    have hrow := hR.row id m' kn' tp' c' _ _ h1 (isSome_blk hs)
    refine ⟨hrow.lt, fun j v hv => ?_⟩
    have h6 := cellsIn_at hc j v hv
    rw [Nat.zero_add] at h6
    have h7 := h5 j v h6
    refine ⟨hrow.cell h7, ?_⟩
    obtain ⟨cs, ty, fr, _, _, _, h8⟩ := hrow
    exact (h8 j v h7).1
theorem ints_row (hR : Rel P r H w) {id m tp : Nat} {kn : Bool} {L : List Nat} (hH : ∃ o, H id = some o ∧ Le (LO.row m kn tp (iL L)).ao o) (hs : (r id).isSome = true) (hc : Go.Ev.cellsIn (iL L) (setCells (iL L) .nil 0) 0 = true) :
    Reads w w.heap.size 1 (some ⟨r.blk id, 0, none⟩) L.length (YtibdcnmaodmghaaGreatDoor.ints (L.map iOf)) := by
  obtain ⟨h1, h2⟩ := row_lies hR hH hs hc
  refine ⟨by simp [YtibdcnmaodmghaaGreatDoor.ints], fun _ => ⟨r.blk id, 0, rfl, h1, fun j u hu => ?_⟩⟩
  have hu : ((L.map iOf).map (Value.int .i64))[j]? = some u := hu
  rw [List.map_map, List.getElem?_map] at hu
  cases e : L[j]? with
  | none => rw [e] at hu; cases hu
  | some x =>
    rw [e] at hu
    cases hu
    rw [Nat.zero_add]
    exact (h2 j _ (nth_iL L j e)).1
end
/-- The automaton. -/
def Tryz.dfa0 : Dfa := ⟨Tryz.dcls.map iOf, Tryz.drows.map (·.map iOf), Tryz.dacc.map iOf⟩
def Tryz.dnext : List AV := Tryz.dids.map fun id => .sl id 0 7 7
def Tryz.dhl : HL := (Tryz.dc, .row 256 true 0 (iL Tryz.dcls)) :: (Tryz.dn, .row 1 false 8 (aL Tryz.dnext)) :: (Tryz.da, .row 1 false 8 (iL Tryz.dacc)) :: (Tryz.dids.zip Tryz.drows).map fun p => (p.1, LO.row 7 true 0 (iL p.2))
def Tryz.dav : AV := .ag (aL [.sl Tryz.dc 0 256 256, .su Tryz.dn 0 8 0, .su Tryz.da 0 8 0])
def Tryz.dv (r : Rho) : DfaV := ⟨some ⟨r.blk Tryz.dc, 0, none⟩, 256, 256, some ⟨r.blk Tryz.dn, 0, none⟩, 8, r.cap Tryz.dn - 0, some ⟨r.blk Tryz.da, 0, none⟩, 8, r.cap Tryz.da - 0⟩
theorem Tryz.dav_conc (r : Rho) : conc r Tryz.dav = .agg #[.slice (Tryz.dv r).Ac (Tryz.dv r).nc (Tryz.dv r).cc, .slice (Tryz.dv r).An (Tryz.dv r).nn (Tryz.dv r).cn, .slice (Tryz.dv r).Aa (Tryz.dv r).na (Tryz.dv r).ca] := rfl
theorem Tryz.dfa_at {P : Program} {r : Rho} {w : World} {H : Hf} (hR : Rel P r H w) (hH : ∀ p ∈ Tryz.dhl, ∃ o, H p.1 = some o ∧ Le p.2.ao o) (ha : ok r Tryz.dav) : DfaAt w w.heap.size (Tryz.dv r) Tryz.dfa0 := by
  obtain ⟨⟨⟨h1, _⟩, ⟨h2, _⟩, ⟨h3, _⟩, _⟩, _⟩ := ha
  have m1 : (Tryz.dc, LO.row 256 true 0 (iL Tryz.dcls)) ∈ Tryz.dhl := List.mem_cons_self
  have m2 : (Tryz.dn, LO.row 1 false 8 (aL Tryz.dnext)) ∈ Tryz.dhl := List.mem_cons_of_mem _ List.mem_cons_self
  have m3 : (Tryz.da, LO.row 1 false 8 (iL Tryz.dacc)) ∈ Tryz.dhl := List.mem_cons_of_mem _ (List.mem_cons_of_mem _ List.mem_cons_self)
  obtain ⟨g1, g2⟩ := row_lies hR (hH _ m2) h2 (by kernel_rfl)
  refine ⟨ints_row hR (hH _ m1) h1 (by kernel_rfl), ints_row hR (hH _ m3) h3 (by kernel_rfl), ⟨Tryz.dnext.map (conc r), ⟨rfl, fun _ => ⟨r.blk Tryz.dn, 0, rfl, g1, fun j u hu => ?_⟩⟩, rfl, fun i L hL => ?_⟩, (by decide : 256 ≤ maxLen), (by decide : 8 ≤ maxLen), (by decide : 8 ≤ maxLen)⟩
  · rw [List.getElem?_map] at hu
    cases e : Tryz.dnext[j]? with
    | none => rw [e] at hu; cases hu
    | some x =>
      rw [e] at hu
      cases hu
      rw [Nat.zero_add]
      exact (g2 j _ (nth_aL _ j e)).1
  · have hL : (Tryz.drows.map (·.map iOf))[i]? = some L := hL
    rw [List.getElem?_map] at hL
    cases e : Tryz.drows[i]? with
    | none => rw [e] at hL; cases hL
    | some x =>
      rw [e] at hL
      cases hL
      have hi : i < Tryz.drows.length := (List.getElem?_eq_some_iff.1 e).1
      have hi2 : i < Tryz.dids.length := hi
      have e2 : Tryz.dids[i]? = some Tryz.dids[i] := List.getElem?_eq_getElem hi2
      have e3 : Tryz.dnext[i]? = some (.sl Tryz.dids[i] 0 7 7) := by
        show (Tryz.dids.map _)[i]? = _
        rw [List.getElem?_map, e2]; rfl
      have hz : (Tryz.dids.zip Tryz.drows)[i]? = some (Tryz.dids[i], x) := by
        rw [List.getElem?_zip_eq_some]
        exact ⟨e2, e⟩
      have mi : (Tryz.dids[i], LO.row 7 true 0 (iL x)) ∈ Tryz.dhl := by
        refine List.mem_cons_of_mem _ (List.mem_cons_of_mem _ (List.mem_cons_of_mem _ ?_))
        exact List.mem_map.2 ⟨_, List.mem_of_getElem? hz, rfl⟩
      have hok := (g2 i _ (nth_aL _ i e3)).2
      have hall : Tryz.drows.all (fun L => L.length == 7 && Go.Ev.cellsIn (iL L) (setCells (iL L) .nil 0) 0) = true := by kernel_rfl
      have hx := List.all_eq_true.1 hall x (List.mem_of_getElem? e)
      rw [Bool.and_eq_true, beq_iff_eq] at hx
      have hrd := ints_row hR (hH _ mi) hok.1 hx.2
      rw [hx.1] at hrd
      exact ⟨_, 7, 7, by rw [List.getElem?_map, e3]; rfl, hrd, by decide⟩
theorem Tryz.dfa_ok : Tryz.dfa0.Ok 7 := by
  have all : ∀ {L : List Int} {p : Int → Bool}, L.all p = true → ∀ (i : Nat) (x : Int), L[i]? = some x → p x = true := fun h i x hx => List.all_eq_true.1 h x (List.mem_of_getElem? hx)
  have h1 : Tryz.dfa0.cls.all (fun x => decide (0 ≤ x) && decide (x < 7)) = true := by kernel_rfl
  have h2 : Tryz.dfa0.acc.all (fun x => decide (-1 ≤ x)) = true := by kernel_rfl
  have h3 : Tryz.dfa0.next.all (fun r => r.length == 7 && r.all fun x => decide (-1 ≤ x) && decide (x < 8)) = true := by kernel_rfl
  have e8 : Tryz.dfa0.next.length = 8 := by kernel_rfl
  refine ⟨by kernel_rfl, fun i x hx => by simpa using all h1 i x hx, by kernel_rfl, by rw [e8]; decide, fun i r hr => ?_, fun i x hx => by simpa using all h2 i x hx⟩
  have := List.all_eq_true.1 h3 r (List.mem_of_getElem? hr)
  rw [Bool.and_eq_true, beq_iff_eq] at this
  refine ⟨this.1, fun j x hx => ?_⟩
  have e := all this.2 j x hx
  rw [e8]
  simpa using e
end Go.Proofs
end

section
namespace Go.Proofs
open Go.RowKit Go.Ev Go.Proofs.YtibdcnmaodmghaaGreatDoor
set_option maxRecDepth 20000
def Tryz.ltext : List Nat := [105,102,32,49,46,120]
/-- A token, as the evaluator holds it. -/
def tokAV (k p : Int) (t : List Nat) (l : Int) : List AV := [.i .i64 k, .i .i64 p, .s t, .i .i64 l]
def Tryz.ltoks : List AV := tokAV 0 0 [105,102] 3 ++ tokAV 3 2 [32] 2 ++ tokAV 2 3 [49] 3 ++ tokAV (-1) 4 [46] 1 ++ tokAV 1 5 [120] 2
def Tryz.lexTE : TE := ⟨.cons Tryz.dav (.cons (.s Tryz.ltext) .nil), Tryz.lexn, Tryz.dhl, .su Tryz.lexn 0 5 0, (Tryz.lexn, .row 4 false 20 (aL Tryz.ltoks)) :: Tryz.dhl, Nat.succ Tryz.lexn⟩
theorem Tryz.ltoks_conc (r : Rho) : toks (lexL Tryz.dfa0 (Go.Ev.strOf Tryz.ltext)) = Tryz.ltoks.map (conc r) := by kernel_rfl
theorem Tryz.lex_len : (lexL Tryz.dfa0 (Go.Ev.strOf Tryz.ltext)).length = 5 := by kernel_rfl
theorem Tryz.lex_at : FnS Tryz.prog 11 Tryz.lexTE.args (addB .nil Tryz.lexTE.pre) Tryz.lexTE.n Tryz.lexTE.v (addB .nil Tryz.lexTE.post) Tryz.lexTE.n' := by
  refine fns_of_calls (enters_of Tryz.func11 (by kernel_rfl) rfl) (Nat.le_succ _) fun r w hR ha hF => ?_
  have hin : inB (addB .nil Tryz.dhl) Tryz.dhl = true := by kernel_rfl
  have hd := Tryz.dfa_at hR (inB_at hin) ha.1
  have hn0 := hF Tryz.lexn (Nat.le_refl _) (Nat.lt_succ_self _)
  refine (lexOwn_any (Tryz.dv r) Tryz.dfa0 7 w.heap.size (Go.Ev.strOf Tryz.ltext) w hd (Nat.le_refl _) Tryz.dfa_ok (by rw [strOf_size]; decide)).mono ?_
  rintro e w' ⟨A, c, rfl, hown, hbel⟩
  have htk := Tryz.ltoks_conc r
  rw [Tryz.lex_len] at hown ⊢
  rw [htk] at hown
  obtain ⟨hxl, hor⟩ := hown
  rcases hor with ⟨h1, h2⟩ | ⟨g, cap, cur, hv, hg, hcur, hcap, hcm, hcs, htk⟩
  · cases h2
  · injection hv with hA hl hc
    subst hA
    subst hc
    obtain ⟨t1, t2⟩ := rel_beyond (o := .row 4 false 20 (setCells (aL Tryz.ltoks) .nil 0)) (K := c) hR hn0 hbel (Nat.le_of_succ_le hg) (by
      intro m' kn' tp' c' e
      cases e
      refine ⟨cur, _, (0, 0), hcur, fun i _ h => by omega, by simpa using hcs, fun i v hv => ?_⟩
      rcases setCells_get hv with ⟨j, j1, j2, j3⟩ | ⟨j1, _⟩
      · have hj : i = j := by omega
        subst hj
        have hlt : ∀ (L : List AV) (k : Nat) (u : AV), AV.nth k (aL L) = some u → L[k]? = some u := by
          intro L
          induction L with
          | nil => intro k u h; exact absurd (nth_lt h) (Nat.not_lt_zero _)
          | cons x L ih =>
            intro k u h
            cases k with
            | zero => rw [show aL (x :: L) = .cons x (aL L) from rfl, nth_zero] at h; simpa using h
            | succ k => rw [show aL (x :: L) = .cons x (aL L) from rfl, nth_succ] at h; simpa using ih k u h
        have hx := hlt _ _ _ j3
        have hil : i < 20 := (List.getElem?_eq_some_iff.1 hx).1
        have hall : ∀ u ∈ Tryz.ltoks, ok (upd r Tryz.lexn (g, c)) u ∧ scB u = true := by
          intro u hu
          simp only [Tryz.ltoks, tokAV, List.cons_append, List.nil_append, List.mem_cons, List.not_mem_nil, or_false] at hu
          rcases hu with rfl | rfl | rfl | rfl | rfl | rfl | rfl | rfl | rfl | rfl | rfl | rfl | rfl | rfl | rfl | rfl | rfl | rfl | rfl | rfl <;> refine ⟨?_, rfl⟩ <;> first | trivial | (intro x hx; simp at hx; omega)
        obtain ⟨a1, a2⟩ := hall v (List.mem_of_getElem? hx)
        refine ⟨a1, a2, ?_, fun _ => hil⟩
        have hcc : conc (upd r Tryz.lexn (g, c)) v = conc r v := by
          have : ∀ u ∈ Tryz.ltoks, conc (upd r Tryz.lexn (g, c)) u = conc r u := by
            intro u hu
            simp only [Tryz.ltoks, tokAV, List.cons_append, List.nil_append, List.mem_cons, List.not_mem_nil, or_false] at hu
            rcases hu with rfl | rfl | rfl | rfl | rfl | rfl | rfl | rfl | rfl | rfl | rfl | rfl | rfl | rfl | rfl | rfl | rfl | rfl | rfl | rfl <;> rfl
          exact this v (List.mem_of_getElem? hx)
        rw [hcc]
        have h3 : (List.take (5 * 4) cur.toList)[i]? = some (conc r v) := by
          rw [htk, List.getElem?_map, hx]; rfl
        rw [List.getElem?_take] at h3
        rw [if_pos (by omega)] at h3
        rw [← Array.getElem?_toList]
        exact h3
      · cases j1) (fun es e => by cases e)
    refine ⟨_, t2, t1, ⟨upd_blk.2.2, ?_⟩, ?_⟩
    · rw [upd_blk.2.1]; omega
    · rw [show Tryz.lexTE.v = .su Tryz.lexn 0 5 0 from rfl, conc_su, upd_blk.1, upd_blk.2.1]; rfl
end Go.Proofs
end
