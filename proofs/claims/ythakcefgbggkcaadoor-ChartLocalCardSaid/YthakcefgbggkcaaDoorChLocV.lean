/- The part of a valid lattice is valid. Plain. -/
import Derived.Test.YthakcefgbggkcaaDoorChLocP
import Derived.Test.YthakcefgbggkcaaDoorChVal37
namespace Go.Proofs.YthakcefgbggkcaaDoor

theorem Ar.bf.trans {a b c : Ar} (h : a.bf b) (h' : b.bf c) : a.bf c := by unfold Ar.bf at *; omega
theorem so_lt {L : List Ar} (so : ∀ (i : Nat) (a b : Ar), L[i]? = some a → L[i + 1]? = some b → a.bf b) : ∀ (j i : Nat) (a b : Ar), i < j → L[i]? = some a → L[j]? = some b → a.bf b
  | 0, _, _, _, h, _, _ => by omega
  | j + 1, i, a, b, h, ha, hb => by
    by_cases e : i = j
    · subst e; exact so i a b ha hb
    · obtain ⟨c, hc⟩ : ∃ c, L[j]? = some c := ⟨_, List.getElem?_eq_getElem (by have := (List.getElem?_eq_some_iff.1 hb).1; omega)⟩
      exact (so_lt so j i a c (by omega) ha hc).trans (so j c b hc hb)
theorem Ar.sh_bf {a b : Ar} {f : Nat} (h : a.bf b) : (a.sh f).bf (b.sh f) := by
  unfold Ar.bf Ar.sh at *
  simp only
  omega
theorem partK_ok {L : List Ar} {f u : Nat} (so : ∀ (i : Nat) (a b : Ar), L[i]? = some a → L[i + 1]? = some b → a.bf b) : ∀ n, n ≤ L.length →
    (partK L f u n).Pairwise (fun x y => x.1.bf y.1) ∧ ∀ x ∈ partK L f u n, ∃ a, L[x.2]? = some a ∧ x.2 < n ∧ a.inn f u = true ∧ x.1 = a.sh f
  | 0, _ => by simp [partK]
  | n + 1, hn => by
    obtain ⟨h1, h2⟩ := partK_ok (f := f) (u := u) so n (by omega)
    obtain ⟨a, ha⟩ : ∃ a, L[n]? = some a := ⟨_, List.getElem?_eq_getElem (by omega)⟩
    by_cases hi : a.inn f u = true
    · rw [partK_yes ha hi]
      refine ⟨?_, fun x hx => ?_⟩
      · rw [List.pairwise_append]
        refine ⟨h1, by simp, fun x hx y hy => ?_⟩
        simp at hy
        subst hy
        obtain ⟨b, hb, hlt, _, e⟩ := h2 x hx
        rw [e]
        exact Ar.sh_bf (so_lt so n x.2 b a hlt hb ha)
      · rcases List.mem_append.1 hx with h | h
        · obtain ⟨b, hb, hlt, hin, e⟩ := h2 x h
          exact ⟨b, hb, by omega, hin, e⟩
        · simp at h
          subst h
          exact ⟨a, ha, by simp, hi, rfl⟩
    · rw [partK_no ha (by cases h : a.inn f u with | false => rfl | true => exact absurd h hi)]
      exact ⟨h1, fun x hx => by
        obtain ⟨b, hb, hlt, hin, e⟩ := h2 x hx
        exact ⟨b, hb, by omega, hin, e⟩⟩
/-- The part between two states is a valid lattice. -/
theorem LatOk.part {S f u : Nat} {T : Int} {fs fs' : List Int} {L : List Ar} (h : LatOk S T fs L) (hfu : f ≤ u) (hlen : fs'.length = u - f + 1) (hz : ∀ x ∈ fs', x = 0) : LatOk ((u - f + 1 : Nat) : Int) T fs' ((partK L f u L.length).map (·.1)) := by
  obtain ⟨h1, h2⟩ := partK_ok (f := f) (u := u) h.so L.length (Nat.le_refl _)
  refine ⟨⟨by omega, by rw [hlen]⟩, fun x hx => by rw [hz x hx]; omega, fun b hb => ?_, fun i a b ha hb => ?_⟩
  · obtain ⟨x, hx, rfl⟩ := List.mem_map.1 hb
    obtain ⟨a, ha, _, hin, e⟩ := h2 x hx
    have hf := h.hA a (List.mem_of_getElem? ha)
    rw [Int.toNat_natCast] at hf ⊢
    rw [e]
    simp only [Ar.inn, Bool.and_eq_true, decide_eq_true_eq] at hin
    unfold Ar.Fine Ar.sh at *
    simp only
    refine ⟨by omega, by omega, by omega, by omega, by omega, by omega, by omega, fun hc => hf.2.2.2.2.2.2.2 ⟨by omega, hc.2⟩⟩
  · have hp : ((partK L f u L.length).map (·.1)).Pairwise Ar.bf := List.pairwise_map.2 h1
    obtain ⟨hi, e1⟩ := List.getElem?_eq_some_iff.1 ha
    obtain ⟨hj, e2⟩ := List.getElem?_eq_some_iff.1 hb
    have := List.pairwise_iff_getElem.1 hp i (i + 1) hi hj (by omega)
    rw [e1, e2] at this
    exact this
end Go.Proofs.YthakcefgbggkcaaDoor
