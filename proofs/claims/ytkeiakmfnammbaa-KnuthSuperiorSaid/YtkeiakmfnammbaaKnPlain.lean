/- Values, their order, what a hyperedge combines: plain facts. -/
import Derived.Test.YtkeiakmfnammbaaBase
namespace Go.Proofs.Ytkeiakmfnammbaa

/-- A value: cost and size. -/
structure Vl where
  c : Int
  s : Int
theorem Vl.ext' {a b : Vl} (h1 : a.c = b.c) (h2 : a.s = b.s) : a = b := by
  cases a; cases b; simp at h1 h2; simp [h1, h2]
def vle (a b : Vl) : Prop := a.c < b.c ∨ (a.c = b.c ∧ a.s ≤ b.s)
def vtop : Vl := ⟨1099511627776, 0⟩
/-- Ordinary: both numbers from 0 to what is infinite. -/
def Ordy (v : Vl) : Prop := 0 ≤ v.c ∧ v.c ≤ 1099511627776 ∧ 0 ≤ v.s ∧ v.s ≤ 1099511627776
/-- Ordinary, and of infinite ones only the one. -/
def Nrm (v : Vl) : Prop := Ordy v ∧ (v.c = 1099511627776 → v.s = 0)
theorem Nrm.top : Nrm vtop := ⟨⟨by decide, by decide, by decide, by decide⟩, fun _ => rfl⟩
theorem vle.refl (a : Vl) : vle a a := .inr ⟨rfl, Int.le_refl _⟩
theorem vle.trans {a b c : Vl} (h : vle a b) (h' : vle b c) : vle a c := by unfold vle at *; omega
theorem vle.antisymm {a b : Vl} (h : vle a b) (h' : vle b a) : a = b := by
  unfold vle at *
  exact Vl.ext' (by omega) (by omega)
theorem vle.total (a b : Vl) : vle a b ∨ vle b a := by unfold vle; omega
theorem Nrm.le_top {a : Vl} (h : Nrm a) : vle a vtop := by
  obtain ⟨⟨h1, h2, h3, h4⟩, h5⟩ := h
  by_cases e : a.c = 1099511627776
  · exact .inr ⟨e, by rw [h5 e]; exact Int.le_refl _⟩
  · exact .inl (by show a.c < 1099511627776; omega)
def vstep (o v : Vl) : Vl := ⟨min (o.c + v.c) 1099511627776, min (o.s + v.s) 1099511627776⟩
def vfin (o : Vl) : Vl := if o.c = 1099511627776 then vtop else o
/-- What a hyperedge of this cost makes of these values. -/
def comb (cost : Int) (l : List Vl) : Vl := vfin (l.foldl vstep ⟨min cost 1099511627776, 1⟩)

theorem vstep_ord {o v : Vl} (ho : Ordy o) (hv : Ordy v) : Ordy (vstep o v) := by
  unfold Ordy at *
  simp only [vstep]
  omega
theorem fold_ord : ∀ {l : List Vl} {o : Vl}, Ordy o → (∀ v ∈ l, Ordy v) → Ordy (l.foldl vstep o)
  | [], _, h, _ => h
  | v :: l, o, h, hl => fold_ord (l := l) (vstep_ord h (hl v (by simp))) (fun u hu => hl u (by simp [hu]))
theorem start_ord {cost : Int} (h : 0 ≤ cost) : Ordy ⟨min cost 1099511627776, 1⟩ := by
  unfold Ordy
  simp only
  omega
theorem vfin_nrm {o : Vl} (h : Ordy o) : Nrm (vfin o) := by
  unfold vfin
  split
  · exact Nrm.top
  · exact ⟨h, fun e => by contradiction⟩
theorem comb_nrm {cost : Int} {l : List Vl} (h : 0 ≤ cost) (hl : ∀ v ∈ l, Ordy v) : Nrm (comb cost l) := vfin_nrm (fold_ord (start_ord h) hl)

/-- The order of what is summed: infinite costs are alike. -/
def vleS (a b : Vl) : Prop := a.c < b.c ∨ (a.c = b.c ∧ (1099511627776 ≤ a.c ∨ a.s ≤ b.s))
theorem vleS.of {a b : Vl} (h : vle a b) : vleS a b := by unfold vle at h; unfold vleS; omega
theorem vstep_mono {o o' v v' : Vl} (ho : vleS o o') (hv : vle v v') (h1 : Ordy o) (h2 : Ordy o') (h3 : Ordy v) (h4 : Ordy v') : vleS (vstep o v) (vstep o' v') := by
  unfold vleS vle Ordy at *
  simp only [vstep]
  omega
/-- Two lists, the first nowhere greater. -/
inductive LeL : List Vl → List Vl → Prop
  | nil : LeL [] []
  | cons {a b : Vl} {l m : List Vl} : vle a b → LeL l m → LeL (a :: l) (b :: m)
theorem LeL.refl : ∀ l : List Vl, LeL l l
  | [] => .nil
  | a :: l => .cons (vle.refl a) (LeL.refl l)
theorem LeL.map {α : Type} {f g : α → Vl} : ∀ {l : List α}, (∀ x ∈ l, vle (f x) (g x)) → LeL (l.map f) (l.map g)
  | [], _ => .nil
  | x :: l, h => .cons (h x (by simp)) (LeL.map (l := l) fun y hy => h y (by simp [hy]))
theorem LeL.set : ∀ {l : List Vl} {i : Nat} {a b : Vl}, l[i]? = some a → vle b a → LeL (l.set i b) l
  | [], _, _, _, h, _ => by simp at h
  | x :: l, 0, a, b, h, hb => by
    simp at h
    subst h
    exact .cons hb (LeL.refl l)
  | x :: l, i + 1, a, b, h, hb => by
    simp at h
    exact .cons (vle.refl x) (LeL.set h hb)
theorem fold_mono {l m : List Vl} (h : LeL l m) : ∀ {o o' : Vl}, vleS o o' → Ordy o → Ordy o' → (∀ v ∈ l, Ordy v) → (∀ v ∈ m, Ordy v) → vleS (l.foldl vstep o) (m.foldl vstep o') := by
  induction h with
  | nil => intro o o' h _ _ _ _; exact h
  | cons hab _ ih =>
    intro o o' h h1 h2 h3 h4
    exact ih (vstep_mono h hab h1 h2 (h3 _ (by simp)) (h4 _ (by simp))) (vstep_ord h1 (h3 _ (by simp))) (vstep_ord h2 (h4 _ (by simp))) (fun v hv => h3 v (by simp [hv])) (fun v hv => h4 v (by simp [hv]))
theorem vfin_mono {a b : Vl} (h : vleS a b) (ha : Ordy a) (hb : Ordy b) : vle (vfin a) (vfin b) := by
  unfold vfin
  unfold vleS at h
  have h1 := ha.2.1
  have h2 := hb.2.1
  split
  · rename_i e
    split
    · exact vle.refl _
    · omega
  · rename_i e
    split
    · exact .inl (by show a.c < 1099511627776; omega)
    · unfold vle; omega
theorem comb_mono {cost : Int} {l m : List Vl} (h0 : 0 ≤ cost) (h : LeL l m) (h3 : ∀ v ∈ l, Ordy v) (h4 : ∀ v ∈ m, Ordy v) : vle (comb cost l) (comb cost m) :=
  vfin_mono (fold_mono h (vleS.of (vle.refl _)) (start_ord h0) (start_ord h0) h3 h4) (fold_ord (start_ord h0) h3) (fold_ord (start_ord h0) h4)
theorem comb_mono_cost {cost cost' : Int} {l : List Vl} (h0 : 0 ≤ cost) (hc : cost ≤ cost') (h3 : ∀ v ∈ l, Ordy v) : vle (comb cost l) (comb cost' l) :=
  vfin_mono (fold_mono (LeL.refl l) (by unfold vleS; simp only; omega) (start_ord h0) (start_ord (by omega)) h3 h3) (fold_ord (start_ord h0) h3) (fold_ord (start_ord (by omega)) h3)
theorem comb_mono_cost2 {cost cost' : Int} {l m : List Vl} (h0 : 0 ≤ cost) (hc : cost ≤ cost') (h : LeL l m) (h3 : ∀ v ∈ l, Ordy v) (h4 : ∀ v ∈ m, Ordy v) : vle (comb cost l) (comb cost' m) :=
  (comb_mono_cost h0 hc h3).trans (comb_mono (by omega) h h3 h4)
theorem fold_ge : ∀ {l : List Vl} {o : Vl}, Ordy o → (∀ v ∈ l, Ordy v) → o.c ≤ (l.foldl vstep o).c ∧ o.s ≤ (l.foldl vstep o).s
  | [], _, _, _ => ⟨Int.le_refl _, Int.le_refl _⟩
  | v :: l, o, h, hl => by
    have hv := hl v (by simp)
    have ih := fold_ge (l := l) (vstep_ord h hv) (fun u hu => hl u (by simp [hu]))
    unfold Ordy at h hv
    simp only [List.foldl_cons]
    have h1 : o.c ≤ (vstep o v).c := by simp only [vstep]; omega
    have h2 : o.s ≤ (vstep o v).s := by simp only [vstep]; omega
    omega
theorem fold_sup : ∀ {l : List Vl} {o v : Vl}, Ordy o → (∀ v ∈ l, Ordy v) → v ∈ l → v.c ≤ (l.foldl vstep o).c ∧ min (v.s + o.s) 1099511627776 ≤ (l.foldl vstep o).s
  | [], _, _, _, _, h => by simp at h
  | u :: l, o, v, h, hl, hv => by
    have hu := hl u (by simp)
    have hs := vstep_ord h hu
    simp only [List.foldl_cons]
    rcases List.mem_cons.1 hv with rfl | hv
    · have := fold_ge (l := l) hs (fun u hu => hl u (by simp [hu]))
      unfold Ordy at h hu
      have h1 : v.c ≤ (vstep o v).c := by simp only [vstep]; omega
      have h2 : min (v.s + o.s) 1099511627776 ≤ (vstep o v).s := by simp only [vstep]; omega
      omega
    · have ih := fold_sup (l := l) hs (fun u hu => hl u (by simp [hu])) hv
      unfold Ordy at h hu
      have h2 : o.s ≤ (vstep o u).s := by simp only [vstep]; omega
      omega
/-- A combination is not less than what it combines. -/
theorem comb_sup {cost : Int} {l : List Vl} {v : Vl} (h0 : 0 ≤ cost) (hl : ∀ v ∈ l, Ordy v) (hv : v ∈ l) (hn : Nrm v) : vle v (comb cost l) := by
  have h1 := fold_sup (start_ord h0) hl hv
  have h2 := fold_ord (l := l) (start_ord h0) hl
  have h3 := hl v hv
  unfold comb vfin
  split
  · exact hn.le_top
  · unfold Ordy at *
    simp only at h1
    unfold vle
    omega
/-- And it is greater, where nothing is infinite. -/
theorem comb_sup' {cost : Int} {l : List Vl} {v : Vl} (h0 : 0 ≤ cost) (hl : ∀ v ∈ l, Ordy v) (hv : v ∈ l) (h : (comb cost l).c < 1099511627776) (hs : (comb cost l).s < 1099511627776) : v.c < (comb cost l).c ∨ (v.c = (comb cost l).c ∧ v.s < (comb cost l).s) := by
  have h1 := fold_sup (start_ord h0) hl hv
  unfold comb vfin at *
  split at h
  · exact absurd h (by decide)
  · rename_i e
    rw [if_neg e] at hs ⊢
    simp only at h1
    omega
/-- What is finite combines finite ones alone. -/
theorem comb_finite {cost : Int} {l : List Vl} {v : Vl} (h0 : 0 ≤ cost) (hl : ∀ v ∈ l, Ordy v) (hv : v ∈ l) (h : (comb cost l).c < 1099511627776) : v.c < 1099511627776 := by
  have h1 := fold_sup (start_ord h0) hl hv
  unfold comb vfin at *
  split at h
  · exact absurd h (by decide)
  · omega
theorem comb_cost_lt {cost : Int} {l : List Vl} (hl : ∀ v ∈ l, Ordy v) (h0 : 0 ≤ cost) (h : (comb cost l).c < 1099511627776) : cost < 1099511627776 ∧ 1 ≤ (comb cost l).s := by
  have h1 := fold_ge (start_ord h0) hl
  unfold comb vfin at *
  split at h
  · exact absurd h (by decide)
  · rename_i e
    rw [if_neg e]
    simp only at h1
    omega
end Go.Proofs.Ytkeiakmfnammbaa
