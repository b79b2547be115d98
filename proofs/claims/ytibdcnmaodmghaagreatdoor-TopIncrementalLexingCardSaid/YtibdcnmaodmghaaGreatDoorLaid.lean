/- The layout terms as they are laid. -/
import Derived.Test.YtibdcnmaodmghaaGreatDoorAwT
import Derived.Test.YtibdcnmaodmghaaGreatDoorEd
import Derived.OpenShut
import Derived.Lay
import Derived.MakeChecks
import Derived.LaidHandle
import Derived.SevenTiedAt
section
namespace Go.Proofs.YtibdcnmaodmghaaGreatDoor
open Go.ChangeShapes Go.WideShapes Go.ChangeAt Go.RowKit Go.Joins Go.Deep
set_option maxRecDepth 100000
theorem laid_plain (w : World) (l : List (String × DataW Unit)) (h : (l.all fun x => x.2.handleName?.isNone) = true) : laidMetH Tryz.prog l w = laidMet Tryz.prog l w := Go.MakeChecks.laidMetH_plain _ _ _ h
theorem laid_all (os : Os) (args : Array Value) : laidMetH Tryz.prog [("emendate/lexspec.layoutTerms", Rows.laid_emendate_lexspec_layoutTerms)] ((World.laidAll Tryz.prog os [("emendate/lexspec.layoutTerms", Rows.laid_emendate_lexspec_layoutTerms)]).forCall (fun _ _ => 0) ⟨#[], args, []⟩).memory := by
  rw [laid_plain _ _ (by rfl)]
  exact laidMet_laidAll args (by kernel_rfl) (by kernel_rfl)
theorem cells_str9 : Tryz.prog.cellsOf 9 = 1 := by kernel_rfl
theorem cells_365 : Tryz.prog.cellsOf 365 = 3 := by kernel_rfl
theorem lay_of_laid {w : World} (h : laidMet Tryz.prog [("emendate/lexspec.layoutTerms", Rows.laid_emendate_lexspec_layoutTerms)] w) : Lay w := by
  obtain ⟨ps, ⟨g, t, cs, fuel, p, q, h1, h2, h3, h4, _, hps⟩, _, hfr⟩ := h
  have hg : Tryz.prog.globalNamed "emendate/lexspec.layoutTerms" = some 1 := by kernel_rfl
  obtain rfl := Option.some.inj (hg.symm.trans h1)
  have ht : (Tryz.prog.globals[1]?).map (·.type) = some 365 := by kernel_rfl
  obtain rfl := Option.some.inj (ht.symm.trans h2)
  have hb : ∃ ty fr, w.heap[1]? = some (.cells cs ty fr) := by
    simp only [World.var?, hg, Option.bind_some] at h3
    split at h3
    · rename_i c t fr e
      cases h3
      exact ⟨t, fr, e⟩
    · cases h3
  obtain ⟨ty, fr, hb⟩ := hb
  obtain ⟨ys, m, _, hx, hlen, hyl, hel⟩ := DataW.trod_array (n := 3) (e := 9) (by kernel_rfl) h4
  rw [cells_365] at hlen
  obtain ⟨c0, c1, c2, rfl⟩ : ∃ c0 c1 c2, cs = #[c0, c1, c2] := by
    obtain ⟨l⟩ := cs
    match l, hlen with
    | [a, b, c], _ => exact ⟨a, b, c, rfl⟩
  have g0 := hel 0 (by decide)
  have g1 := hel 1 (by decide)
  have g2 := hel 2 (by decide)
  match ys, hyl with
  | [y0, y1, y2], _ =>
    simp [cells_str9] at g0 g1 g2
    obtain ⟨s0, e0, f0, _⟩ := DataW.trod_string Tryz.underlying9 g0
    obtain ⟨s1, e1, f1, _⟩ := DataW.trod_string Tryz.underlying9 g1
    obtain ⟨s2, e2, f2, _⟩ := DataW.trod_string Tryz.underlying9 g2
    simp at e0 e1 e2
    subst e0 e1 e2
    have hd := congrArg Prod.fst hx
    simp only [Rows.laid_emendate_lexspec_layoutTerms, f0, f1, f2, List.map_cons, List.map_nil, DataW.agg.injEq, List.cons.injEq, DataW.lit.injEq, Lit.string.injEq, and_true] at hd
    obtain ⟨d0, d1, d2⟩ := hd
    have str : ∀ {s : ByteArray} {l : List UInt8} {k : List Nat}, l = s.data.toList → l = k.map UInt8.ofNat → s = Go.Ev.strOf k := by
      intro s l k h1 h2
      apply ByteArray.ext
      apply Array.toList_inj.1
      rw [← h1, h2]
      rfl
    have a0 := str d0 (k := [110,101,119,108,105,110,101]) rfl
    have a1 := str d1 (k := [105,110,100,101,110,116]) rfl
    have a2 := str d2 (k := [100,101,100,101,110,116]) rfl
    subst a0 a1 a2
    obtain ⟨⟨c, t, ec⟩, _⟩ := hfr 1 0 (by rw [hps]; simp [MemPlace.row, List.range_succ])
    rw [hb] at ec
    injection ec with ec
    injection ec with _ _ ec
    exact ⟨ty, fr, hb, fun i hi => by rw [ec]; simp⟩
end Go.Proofs.YtibdcnmaodmghaaGreatDoor
end
