/- A part of a lattice: its instances, its cells. Plain. -/
import Derived.Test.YthakcefgbggkcaaDoorChRPl
namespace Go.Proofs.YthakcefgbggkcaaDoor

theorem fm_congr {α β : Type} {f g : α → Option β} : ∀ {l : List α}, (∀ x ∈ l, f x = g x) → l.filterMap f = l.filterMap g
  | [], _ => rfl
  | x :: l, h => by rw [List.filterMap_cons, List.filterMap_cons, h x (by simp), fm_congr (l := l) fun y hy => h y (by simp [hy])]
theorem fl_congr {α β : Type} {f g : α → List β} : ∀ {l : List α}, (∀ x ∈ l, f x = g x) → l.flatMap f = l.flatMap g
  | [], _ => rfl
  | x :: l, h => by rw [List.flatMap_cons, List.flatMap_cons, h x (by simp), fl_congr (l := l) fun y hy => h y (by simp [hy])]
/-- An arc of the part, renumbered. -/
def Ar.sh (a : Ar) (f : Nat) : Ar := { a with fr := a.fr - f, tt := a.tt - f }
def Ar.inn (a : Ar) (f u : Nat) : Bool := decide ((f : Int) ≤ a.fr) && decide (a.tt ≤ (u : Int))
/-- The arcs of the part among the first n, with their old places. -/
def partK (L : List Ar) (f u n : Nat) : List (Ar × Nat) := (List.range n).filterMap fun i => match L[i]? with
  | some a => if a.inn f u then some (a.sh f, i) else none
  | none => none
theorem partK_yes {L : List Ar} {f u n : Nat} {a : Ar} (h : L[n]? = some a) (hi : a.inn f u = true) : partK L f u (n + 1) = partK L f u n ++ [(a.sh f, n)] := by
  unfold partK
  rw [List.range_succ, List.filterMap_append]
  simp [h, hi]
theorem partK_no {L : List Ar} {f u n : Nat} {a : Ar} (h : L[n]? = some a) (hi : a.inn f u = false) : partK L f u (n + 1) = partK L f u n := by
  unfold partK
  rw [List.range_succ, List.filterMap_append]
  simp [h, hi]
def arcsN (L : List Ar) (s t : Nat) (r : Rl) (n : Nat) : List Ins := (List.range n).filterMap fun i => match L[i]? with
  | some a => if a.fits s t r.a then some ⟨i, r.p + a.co, []⟩ else none
  | none => none
theorem arcsN_step {L : List Ar} {s t : Nat} {r : Rl} {n : Nat} {a : Ar} (h : L[n]? = some a) : arcsN L s t r (n + 1) = arcsN L s t r n ++ (if a.fits s t r.a then [⟨n, r.p + a.co, []⟩] else []) := by
  unfold arcsN
  rw [List.range_succ, List.filterMap_append]
  by_cases hf : a.fits s t r.a = true <;> simp [h, hf]
theorem arcsOf_snoc (L : List Ar) (b : Ar) (s t : Nat) (r : Rl) : arcsOf (L ++ [b]) s t r = arcsOf L s t r ++ (if b.fits s t r.a then [⟨L.length, r.p + b.co, []⟩] else []) := by
  have h1 : arcsOf (L ++ [b]) s t r = arcsN (L ++ [b]) s t r (L.length + 1) := by unfold arcsOf arcsN; rw [List.length_append]; rfl
  have h2 : arcsN (L ++ [b]) s t r L.length = arcsOf L s t r := by
    unfold arcsN arcsOf
    refine fm_congr fun i hi => ?_
    rw [List.getElem?_append_left (List.mem_range.1 hi)]
    rfl
  rw [h1, arcsN_step (a := b) (by simp), h2]
/-- The place that an arc of the part had. -/
def oldAt (P : List (Ar × Nat)) (i : Int) : Int := match P[i.toNat]? with
  | some x => (x.2 : Int)
  | none => i
theorem arcs_part (L : List Ar) (f u s t : Nat) (r : Rl) (hu : t + f ≤ u) : ∀ n, n ≤ L.length → (arcsOf ((partK L f u n).map (·.1)) s t r).map (fun i => ⟨oldAt (partK L f u n) i.arg, i.pr, i.us⟩) = arcsN L (s + f) (t + f) r n
  | 0, _ => by simp [partK, arcsOf, arcsN]
  | n + 1, hn => by
    have ih := arcs_part L f u s t r hu n (by omega)
    obtain ⟨a, ha⟩ : ∃ a, L[n]? = some a := ⟨_, List.getElem?_eq_getElem (by omega)⟩
    rw [arcsN_step ha, ← ih]
    by_cases hi : a.inn f u = true
    · rw [partK_yes ha hi, List.map_append, List.map_cons, List.map_nil, arcsOf_snoc, List.map_append]
      have hl : ((partK L f u n).map (·.1)).length = (partK L f u n).length := by simp
      have hf : (a.sh f).fits s t r.a = a.fits (s + f : Nat) (t + f : Nat) r.a := by
        unfold Ar.fits Ar.sh
        simp only
        have e1 : (a.fr - (f : Int) = (s : Int)) ↔ (a.fr = ((s + f : Nat) : Int)) := by omega
        have e2 : (a.tt - (f : Int) = (t : Int)) ↔ (a.tt = ((t + f : Nat) : Int)) := by omega
        simp only [e1, e2]
      congr 1
      · apply List.map_congr_left
        intro i hi'
        obtain ⟨k, b, hb, _, _, _, rfl⟩ := mem_arcs.1 hi'
        have hk := (List.getElem?_eq_some_iff.1 hb).1
        rw [hl] at hk
        simp only [oldAt, Int.toNat_natCast]
        rw [List.getElem?_append_left hk]
      · rw [hf]
        by_cases hf2 : a.fits (s + f : Nat) (t + f : Nat) r.a = true
        · rw [if_pos hf2, if_pos hf2]
          have e : (partK L f u n ++ [(a.sh f, n)])[(partK L f u n).length]? = some (a.sh f, n) := by simp
          simp only [List.map_cons, List.map_nil, oldAt, hl, Int.toNat_natCast, e]
          rfl
        · rw [if_neg hf2, if_neg hf2]
          rfl
    · have hi' : a.inn f u = false := by cases h : a.inn f u with | false => rfl | true => exact absurd h hi
      rw [partK_no ha hi']
      have hf : a.fits (s + f : Nat) (t + f : Nat) r.a = false := by
        cases hc : a.fits (s + f : Nat) (t + f : Nat) r.a with
        | false => rfl
        | true =>
          simp only [Ar.fits, Bool.and_eq_true, decide_eq_true_eq] at hc
          simp only [Ar.inn, Bool.and_eq_false_iff, decide_eq_false_iff_not] at hi'
          omega
      rw [if_neg (by rw [hf]; decide), List.append_nil]
/-- An instance of the part, renumbered. -/
def Ins.sh (P : List (Ar × Nat)) (f : Nat) (r : Rl) (i : Ins) : Ins := ⟨if r.k = 2 then oldAt P i.arg else i.arg + f, i.pr, i.us.map fun x => ⟨x.h, x.f + f, x.t + f⟩⟩
theorem insts_part (L : List Ar) (f u s t : Nat) (r : Rl) (hst : s ≤ t) (hu : t + f ≤ u) : insts L (s + f) (t + f) r = (insts ((partK L f u L.length).map (·.1)) s t r).map (Ins.sh (partK L f u L.length) f r) := by
  unfold insts
  by_cases h1 : r.k = 1
  · rw [if_pos h1, if_pos h1]
    by_cases h : s = t
    · rw [if_pos (by omega), if_pos h]
      simp [Ins.sh, h1]
    · rw [if_neg (by omega), if_neg h]
      rfl
  · rw [if_neg h1, if_neg h1]
    by_cases h2 : r.k = 2
    · rw [if_pos h2, if_pos h2]
      have h := arcs_part L f u s t r hu L.length (Nat.le_refl _)
      have e : arcsN L (s + f) (t + f) r L.length = arcsOf L (s + f) (t + f) r := rfl
      rw [e] at h
      rw [← h]
      apply List.map_congr_left
      intro i hi
      obtain ⟨k, b, hb, _, _, _, rfl⟩ := mem_arcs.1 hi
      simp [Ins.sh, h2]
    · rw [if_neg h2, if_neg h2]
      by_cases h3 : r.k = 3
      · rw [if_pos h3, if_pos h3]
        simp [Ins.sh, h3]
      · rw [if_neg h3, if_neg h3]
        unfold splits
        rw [List.map_map, show t + f + 1 - (s + f) = t + 1 - s by omega]
        apply List.map_congr_left
        intro j _
        simp only [Function.comp, Ins.sh, h2, if_false, List.map_cons, List.map_nil, Ins.mk.injEq, List.cons.injEq, It.mk.injEq, and_true, true_and]
        push_cast
        refine ⟨by omega, ⟨by omega, by omega⟩, ⟨by omega, by omega⟩⟩
section
variable {R : List Rl} {L : List Ar} {f u s t N S : Nat} {C : It → Vl} {U : Nat → Vl}
/-- The values of the items of the whole, as the part numbers them. -/
def Csh (C : It → Vl) (f : Nat) (x : It) : Vl := C ⟨x.h, x.f + f, x.t + f⟩
theorem spv_sh (x : It) : spv C (s + f) (t + f) U ⟨x.h, x.f + f, x.t + f⟩ = spv (Csh C f) s t U x := by
  have ho : It.own (s + f) (t + f) ⟨x.h, x.f + f, x.t + f⟩ = x.own s t := by
    unfold It.own
    simp only
    have e1 : (x.f + (f : Int) = ((s + f : Nat) : Int)) ↔ (x.f = (s : Int)) := by omega
    have e2 : (x.t + (f : Int) = ((t + f : Nat) : Int)) ↔ (x.t = (t : Int)) := by omega
    simp only [e1, e2]
  unfold spv
  rw [ho]
  rfl
theorem iv_sh (P : List (Ar × Nat)) (r : Rl) (i : Ins) : iv (spv C (s + f) (t + f) U) (i.sh P f r) = iv (spv (Csh C f) s t U) i := by
  unfold iv Ins.sh
  simp only [List.map_map]
  congr 1
  apply List.map_congr_left
  intro x _
  exact spv_sh x
theorem PreS.part (hst : s ≤ t) (hu : t + f ≤ u) : PreS R L (s + f) (t + f) C U ↔ PreS R ((partK L f u L.length).map (·.1)) s t (Csh C f) U := by
  constructor
  · intro h r hr i hi
    have := h r hr (i.sh (partK L f u L.length) f r) (by rw [insts_part L f u s t r hst hu]; exact List.mem_map.2 ⟨i, hi, rfl⟩)
    rw [iv_sh] at this
    exact this
  · intro h r hr i hi
    rw [insts_part L f u s t r hst hu] at hi
    obtain ⟨i', hi', rfl⟩ := List.mem_map.1 hi
    rw [iv_sh]
    exact h r hr i' hi'
theorem SSol.part (hst : s ≤ t) (hu : t + f ≤ u) (h : SSol R L (s + f) (t + f) C U) : SSol R ((partK L f u L.length).map (·.1)) s t (Csh C f) U :=
  ⟨h.nrm, (PreS.part hst hu).1 h.pre, fun U' hU hp => h.top U' hU ((PreS.part hst hu).2 hp)⟩
/-- A cell of the part, renumbered. -/
def Cl.sh (P : List (Ar × Nat)) (f : Nat) (R : List Rl) (x : Cl) : Cl := match R[x.r.toNat]? with
  | some r => if x.r < 0 then x else ⟨x.v, x.r, if r.k = 2 then oldAt P x.a else x.a + f⟩
  | none => x
theorem insH_part (h : Nat) (hst : s ≤ t) (hu : t + f ≤ u) : insH R L (s + f) (t + f) h = (insH R ((partK L f u L.length).map (·.1)) s t h).map fun x => (x.1, match R[x.1]? with
    | some r => x.2.sh (partK L f u L.length) f r
    | none => x.2) := by
  unfold insH
  rw [List.map_flatMap]
  refine fl_congr fun k _ => ?_
  cases hk : R[k]? with
  | none => rfl
  | some r =>
    simp only
    split
    · rw [insts_part L f u s t r hst hu, List.map_map, List.map_map]
      apply List.map_congr_left
      intro i _
      simp only [Function.comp, hk]
    · rfl
theorem cel_part (h : Nat) (hst : s ≤ t) (hu : t + f ≤ u) : cel R L (s + f) (t + f) C U h = (cel R ((partK L f u L.length).map (·.1)) s t (Csh C f) U h).sh (partK L f u L.length) f R := by
  have hnone : cnone.sh (partK L f u L.length) f R = cnone := by
    unfold Cl.sh
    cases R[cnone.r.toNat]? with
    | none => rfl
    | some r => simp only; rw [if_pos (by decide)]
  unfold cel
  by_cases hf : (U h).c < 1099511627776
  · rw [if_pos hf, if_pos hf, insH_part h hst hu, List.find?_map]
    have hatt : (atts C (s + f) (t + f) U h ∘ fun (x : Nat × Ins) => (x.1, match R[x.1]? with
        | some r => x.2.sh (partK L f u L.length) f r
        | none => x.2)) = fun x => atts C (s + f) (t + f) U h (x.1, match R[x.1]? with
        | some r => x.2.sh (partK L f u L.length) f r
        | none => x.2) := rfl
    have e : (insH R ((partK L f u L.length).map (·.1)) s t h).find? (atts C (s + f) (t + f) U h ∘ fun (x : Nat × Ins) => (x.1, match R[x.1]? with
        | some r => x.2.sh (partK L f u L.length) f r
        | none => x.2)) = (insH R ((partK L f u L.length).map (·.1)) s t h).find? (atts (Csh C f) s t U h) := by
      have key : ∀ l : List (Nat × Ins), (∀ x ∈ l, x ∈ insH R ((partK L f u L.length).map (·.1)) s t h) → l.find? (atts C (s + f) (t + f) U h ∘ fun (x : Nat × Ins) => (x.1, match R[x.1]? with
          | some r => x.2.sh (partK L f u L.length) f r
          | none => x.2)) = l.find? (atts (Csh C f) s t U h) := by
        intro l
        induction l with
        | nil => intro _; rfl
        | cons x l ih =>
          intro hl
          obtain ⟨k, i⟩ := x
          obtain ⟨r, hr, _, _⟩ := mem_insH.1 (hl (k, i) (by simp))
          rw [List.find?_cons, List.find?_cons, ih (fun y hy => hl y (by simp [hy]))]
          have e1 : (atts C (s + f) (t + f) U h ∘ fun (x : Nat × Ins) => (x.1, match R[x.1]? with
              | some r => x.2.sh (partK L f u L.length) f r
              | none => x.2)) (k, i) = atts (Csh C f) s t U h (k, i) := by
            simp only [Function.comp, hr]
            unfold atts
            simp only
            rw [iv_sh]
          rw [e1]
      exact key _ fun _ h => h
    rw [e]
    cases hfd : (insH R ((partK L f u L.length).map (·.1)) s t h).find? (atts (Csh C f) s t U h) with
    | none => simp only [Option.map_none]; exact hnone.symm
    | some x =>
      obtain ⟨k, i⟩ := x
      obtain ⟨r, hr, _, _⟩ := mem_insH.1 (List.mem_of_find?_eq_some hfd)
      simp only [Option.map_some, hr]
      unfold Cl.sh
      simp only [Int.toNat_natCast, hr, Ins.sh]
      rw [if_neg (show ¬ ((k : Int) < 0) by omega)]
  · rw [if_neg hf, if_neg hf, hnone]
theorem sh_v (P : List (Ar × Nat)) (x : Cl) : (x.sh P f R).v = x.v := by
  unfold Cl.sh
  split
  · split <;> rfl
  · rfl
/-- The cells between two states are those of the chart of the part, renumbered. -/
theorem Chart.part {cs ds : List Cl} (hR : ∀ r ∈ R, r.Ok N) (hfu : f ≤ u) (huS : u < S) (hc : Chart R L N S cs) (hd : Chart R ((partK L f u L.length).map (·.1)) N (u - f + 1) ds) :
    ∀ d s t, t - s < d → s ≤ t → t ≤ u - f → ∀ j < N, cs[cix S (s + f) (t + f) * N + j]? = (ds[cix (u - f + 1) s t * N + j]?).map (Cl.sh (partK L f u L.length) f R) := by
  intro d
  induction d with
  | zero => intro s t h; omega
  | succ d ih =>
    intro s t hdd hst htu j hj
    have ha : AgreeIn N s t (CC N (u - f + 1) ds) (Csh (CC N S cs) f) := by
      intro x hx hf hft ht hno
      have hne : ¬ (x.f = s ∧ x.t = t) := fun e => by rw [own_iff.2 e] at hno; cases hno
      have h := ih x.f.toNat x.t.toNat (by omega) (by omega) (by omega) x.h.toNat (by omega)
      unfold Csh CC atC
      rw [if_pos ⟨hx, by omega, hft, by omega⟩, if_pos ⟨hx, by simp only; omega, by simp only; omega, by simp only; omega⟩]
      simp only
      rw [show (x.f + (f : Int)).toNat = x.f.toNat + f by omega, show (x.t + (f : Int)).toNat = x.t.toNat + f by omega, h]
      cases ds[cix (u - f + 1) x.f.toNat x.t.toNat * N + x.h.toNat]? with
      | none => rfl
      | some y => exact (sh_v _ y).symm
    obtain ⟨U, h1, h2⟩ := hc.span (show s + f ≤ t + f by omega) (by omega)
    obtain ⟨U', h1', h2'⟩ := hd.span hst (by omega)
    have e : U = U' := (h1.part hst (show t + f ≤ u by omega)).uniq (h1'.agree hR hst ha)
    rw [h2 j hj, h2' j hj, cel_part j hst (show t + f ≤ u by omega), e, cel_agree hR hst ha]
    rfl
end
end Go.Proofs.YthakcefgbggkcaaDoor
