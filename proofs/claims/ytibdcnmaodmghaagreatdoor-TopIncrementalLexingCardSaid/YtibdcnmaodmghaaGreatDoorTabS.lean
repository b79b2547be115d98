/- The calls of the table that were walked. -/
import Derived.Test.YtibdcnmaodmghaaGreatDoorSrt
import Derived.Test.YtibdcnmaodmghaaGreatDoorStep
import Derived.Test.YtibdcnmaodmghaaGreatDoorEvF
import Derived.Test.YtibdcnmaodmghaaGreatDoorTabD
section
namespace Go.Proofs
open Go.RowKit Go.Ev
theorem Tryz.ext0_sound : ExtS Tryz.prog ext0 := by
  intro f g hg args B n v B' n' h
  unfold ext0 at hg
  cases h1 : Nat.beq f 224 with
  | true => rw [h1] at hg; cases Nat.eq_of_beq_eq_true h1; cases (show some (sortedK 275) = some g from hg); exact Tryz.sorted_ext h
  | false =>
    rw [h1] at hg
    cases h2 : Nat.beq f 323 with
    | true => rw [h2] at hg; cases Nat.eq_of_beq_eq_true h2; cases (show some ixbK = some g from hg); exact Tryz.ixb_ext h
    | false =>
      rw [h2] at hg
      cases h3 : Nat.beq f 283 with
      | true => rw [h3] at hg; cases Nat.eq_of_beq_eq_true h3; cases (show some wideK = some g from hg); exact Tryz.wide_ext h
      | false =>
        rw [h3] at hg
        cases h4 : Nat.beq f 163 with
        | true => rw [h4] at hg; cases Nat.eq_of_beq_eq_true h4; cases (show some stepK = some g from hg); exact Tryz.step_ext h
        | false =>
          rw [h4] at hg
          cases h5 : Nat.beq f 278 with
          | true => rw [h5] at hg; cases Nat.eq_of_beq_eq_true h5; cases (show some hasK = some g from hg); exact Tryz.has_ext h
          | false => rw [h5] at hg; cases hg
theorem Tryz.evl_sound {e : Ext} (he : ExtS Tryz.prog e) : Sound Tryz.prog (Tryz.evl e) :=
  evs_sound (fun _ _ h => h) he (fun f h => by cases Nat.eq_of_beq_eq_true h; exact Tryz.harm156) (fun _ hE => drawn_sound (by kernel_rfl) hE) 300
theorem Tryz.extT_sound {e e' : Ext} (he : ExtS Tryz.prog e) (he' : ExtS Tryz.prog e') {f : Nat} {l : List TE} (hl : ∀ t ∈ l, tabOk (Tryz.evl e') f t = true) : ExtS Tryz.prog (extT f l e) := by
  intro g k hg args B n v B' n' h
  unfold extT at hg
  cases hb : Nat.beq g f with
  | false => rw [hb] at hg; exact he g k hg args B n v B' n' h
  | true =>
    rw [hb] at hg
    cases (show some (tabs_ (Tryz.evl e f) l) = some k from hg)
    cases Nat.eq_of_beq_eq_true hb
    exact tabs_sound (Tryz.evl_sound he') (Tryz.evl_sound he) hl h
end Go.Proofs
end
