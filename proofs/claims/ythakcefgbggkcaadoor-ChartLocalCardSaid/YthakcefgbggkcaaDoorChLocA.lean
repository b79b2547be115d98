/- The cells of the part and of the whole, item by item. Plain. -/
import Derived.Test.YthakcefgbggkcaaDoorChLocV
namespace Go.Proofs.YthakcefgbggkcaaDoor

theorem insts_arg_le {L : List Ar} {s t : Nat} {r : Rl} (hst : s ≤ t) {i : Ins} (hi : i ∈ insts L s t r) : 0 ≤ i.arg ∧ i.arg ≤ (L.length + t : Nat) := by
  unfold insts at hi
  split at hi
  · split at hi
    · simp at hi; subst hi; simp only; omega
    · simp at hi
  · split at hi
    · obtain ⟨k, a, ha, _, _, _, rfl⟩ := mem_arcs.1 hi
      have := (List.getElem?_eq_some_iff.1 ha).1
      simp only; omega
    · split at hi
      · simp at hi; subst hi; simp only; omega
      · obtain ⟨m, hm1, hm2, rfl⟩ := mem_splits.1 hi
        simp only; omega
theorem cel_arg {R : List Rl} {L : List Ar} {s t : Nat} {C : It → Vl} {U : Nat → Vl} (h : Nat) (hst : s ≤ t) : 0 ≤ (cel R L s t C U h).a ∧ (cel R L s t C U h).a ≤ (L.length + t : Nat) := by
  have hn : (0 : Int) ≤ cnone.a ∧ cnone.a ≤ (L.length + t : Nat) := ⟨by decide, by show (0 : Int) ≤ _; omega⟩
  unfold cel
  split
  · cases hfd : (insH R L s t h).find? (atts C s t U h) with
    | none => exact hn
    | some x =>
      obtain ⟨k, i⟩ := x
      obtain ⟨r, hr, _, hi⟩ := mem_insH.1 (List.mem_of_find?_eq_some hfd)
      exact insts_arg_le hst hi
  · exact hn
theorem atC_some {N S : Nat} {cs : List Cl} {h s t : Nat} {z : Cl} (hh : h < N) (hst : s ≤ t) (ht : t < S) (hz : cs[cix S s t * N + h]? = some z) : atC N S cs ⟨h, s, t⟩ = z := by
  unfold atC
  rw [if_pos ⟨⟨by simp, by simp only; omega⟩, by simp, by simp only; omega, by simp only; omega⟩]
  simp only [Int.toNat_natCast]
  rw [hz]
  rfl
theorem part_at {R : List Rl} {L : List Ar} {N S f u q : Nat} {cs ds : List Cl} (hR : ∀ r ∈ R, r.Ok N) (hfu : f ≤ u) (huS : u < S) (hq : u - f + 1 = q) (hc : Chart R L N S cs) (hd : Chart R ((partK L f u L.length).map (·.1)) N q ds)
    {h s t sf tf : Nat} (hh : h < N) (hst : s ≤ t) (ht : t < q) (hsf : s + f = sf) (htf : t + f = tf) :
    ∃ x, atC N q ds ⟨h, s, t⟩ = x ∧ atC N S cs ⟨h, sf, tf⟩ = x.sh (partK L f u L.length) f R ∧ 0 ≤ x.a ∧ x.a ≤ (L.length + S : Nat) := by
  subst hq hsf htf
  have h1 := Chart.part hR hfu huS hc hd (t - s + 1) s t (by omega) hst (by omega) h hh
  obtain ⟨U, hU, h2⟩ := hd.span hst ht
  have h3 := h2 h hh
  have ha := cel_arg (R := R) (L := (partK L f u L.length).map (·.1)) (C := CC N (u - f + 1) ds) (U := U) h hst
  rw [h3, Option.map_some] at h1
  refine ⟨_, atC_some hh hst ht h3, atC_some hh (by omega) (by omega) h1, ha.1, ?_⟩
  have hl : ((partK L f u L.length).map (·.1)).length ≤ L.length := by
    rw [List.length_map]
    unfold partK
    exact Nat.le_trans (List.length_filterMap_le _ _) (by simp)
  omega
section
variable {P : List (Ar × Nat)} {f : Nat} {R : List Rl} {v : Vl} {a : Int}
theorem sh_neg {r : Int} (h : r < 0) : Cl.sh P f R ⟨v, r, a⟩ = ⟨v, r, a⟩ := by
  unfold Cl.sh
  simp only
  cases R[r.toNat]? with
  | none => rfl
  | some x => simp only; rw [if_pos h]
theorem sh_big {k : Nat} (h : R.length ≤ k) : Cl.sh P f R ⟨v, (k : Int), a⟩ = ⟨v, (k : Int), a⟩ := by
  unfold Cl.sh
  simp only [Int.toNat_natCast]
  rw [List.getElem?_eq_none h]
theorem sh_other {k : Nat} {r : Rl} (h : R[k]? = some r) (hk : r.k ≠ 2) : Cl.sh P f R ⟨v, (k : Int), a⟩ = ⟨v, (k : Int), a + f⟩ := by
  unfold Cl.sh
  simp only [Int.toNat_natCast]
  rw [h]
  simp only
  rw [if_neg (by omega), if_neg hk]
theorem sh_term {k i : Nat} {r : Rl} {x : Ar × Nat} (h : R[k]? = some r) (hk : r.k = 2) (hx : P[i]? = some x) : Cl.sh P f R ⟨v, (k : Int), (i : Int)⟩ = ⟨v, (k : Int), (x.2 : Int)⟩ := by
  unfold Cl.sh
  simp only [Int.toNat_natCast]
  rw [h]
  simp only
  rw [if_neg (by omega), if_pos hk]
  unfold oldAt
  simp only [Int.toNat_natCast]
  rw [hx]
theorem sh_out {k i : Nat} {r : Rl} (h : R[k]? = some r) (hk : r.k = 2) (hx : P.length ≤ i) : Cl.sh P f R ⟨v, (k : Int), (i : Int)⟩ = ⟨v, (k : Int), (i : Int)⟩ := by
  unfold Cl.sh
  simp only [Int.toNat_natCast]
  rw [h]
  simp only
  rw [if_neg (by omega), if_pos hk]
  unfold oldAt
  simp only [Int.toNat_natCast]
  rw [List.getElem?_eq_none hx]
end
end Go.Proofs.YthakcefgbggkcaaDoor
