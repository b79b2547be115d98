/- Renumbered nodes: plain facts, and rows of rows. -/
import Derived.Test.YtkeiakmfnammbaaKnRowsB
namespace Go.Proofs.Ytkeiakmfnammbaa
open Go.RowKit

inductive All2 (R : Ed → Ed → Prop) : List Ed → List Ed → Prop
  | nil : All2 R [] []
  | cons {a b : Ed} {l m : List Ed} : R a b → All2 R l m → All2 R (a :: l) (b :: m)
section
variable {R : Ed → Ed → Prop} {l m : List Ed}
theorem All2.snoc {a b : Ed} (h : All2 R l m) (hr : R a b) : All2 R (l ++ [a]) (m ++ [b]) := by
  induction h with
  | nil => exact .cons hr .nil
  | cons h1 _ ih => exact .cons h1 ih
theorem All2.len (h : All2 R l m) : m.length = l.length := by
  induction h with
  | nil => rfl
  | cons _ _ ih => simp [ih]
theorem All2.mem_l (h : All2 R l m) : ∀ a ∈ l, ∃ b ∈ m, R a b := by
  induction h with
  | nil => intro a ha; simp at ha
  | cons h1 _ ih =>
    intro a ha
    rcases List.mem_cons.1 ha with rfl | ha
    · exact ⟨_, by simp, h1⟩
    · obtain ⟨b, hb, hr⟩ := ih a ha
      exact ⟨b, by simp [hb], hr⟩
theorem All2.mem_r (h : All2 R l m) : ∀ b ∈ m, ∃ a ∈ l, R a b := by
  induction h with
  | nil => intro a ha; simp at ha
  | cons h1 _ ih =>
    intro b hb
    rcases List.mem_cons.1 hb with rfl | hb
    · exact ⟨_, by simp, h1⟩
    · obtain ⟨a, ha, hr⟩ := ih b hb
      exact ⟨a, by simp [ha], hr⟩
theorem All2.find {p q : Ed → Bool} (h : All2 R l m) (hpq : ∀ a b, a ∈ l → R a b → q b = p a) : m.findIdx? q = l.findIdx? p := by
  induction h with
  | nil => rfl
  | cons h1 _ ih =>
    rw [List.findIdx?_cons, List.findIdx?_cons, hpq _ _ (by simp) h1, ih (fun a b ha => hpq a b (by simp [ha]))]
end
def pm (N k i : Nat) : Nat := if i < N then (i + k) % N else i
def qm (N k i : Nat) : Nat := if i < N then (i + (N - k)) % N else i
theorem qm_pm {N k : Nat} (hk : k < N) (i : Nat) : qm N k (pm N k i) = i := by
  unfold pm
  by_cases hi : i < N
  · rw [if_pos hi]
    unfold qm
    rw [if_pos (Nat.mod_lt _ (by omega)), Nat.mod_add_mod, show i + k + (N - k) = i + N by omega, Nat.add_mod_right, Nat.mod_eq_of_lt hi]
  · rw [if_neg hi]
    unfold qm
    rw [if_neg hi]
theorem pm_inj {N k : Nat} (hk : k < N) {a b : Nat} (h : pm N k a = pm N k b) : a = b := by
  rw [← qm_pm hk a, h, qm_pm hk]
theorem pm_int {N k : Nat} {t : Int} (h0 : 0 ≤ t) (h1 : t < N) : ((t + k) % (N : Int)).toNat = pm N k t.toNat := by
  obtain ⟨a, rfl⟩ := Int.eq_ofNat_of_zero_le h0
  unfold pm
  rw [Int.toNat_natCast, if_pos (by omega), ← Int.natCast_add, ← Int.natCast_emod, Int.toNat_natCast]
/-- A hyperedge, its nodes renumbered. -/
structure Rn (N k : Nat) (e e' : Ed) : Prop where
  hd : e'.hd = (e.hd + k) % (N : Int)
  cost : e'.cost = e.cost
  ts : e'.ts = e.ts.map fun t => (t + k) % (N : Int)
section
variable {N k : Nat} {e e' : Ed}
theorem Rn.hdN (h : Rn N k e e') (ho : e.Ok N) : e'.hd.toNat = pm N k e.hd.toNat := by
  rw [h.hd]
  exact pm_int ho.hd.1 ho.hd.2
theorem Rn.ev (h : Rn N k e e') (ho : e.Ok N) (W : Nat → Vl) : ev W e' = ev (fun i => W (pm N k i)) e := by
  unfold Go.Proofs.Ytkeiakmfnammbaa.ev tlv
  rw [h.cost, h.ts, List.map_map]
  congr 1
  refine List.map_congr_left fun t ht => ?_
  show W ((t + k) % (N : Int)).toNat = W (pm N k t.toNat)
  rw [pm_int (ho.ts t ht).1 (ho.ts t ht).2]
theorem Rn.att (h : Rn N k e e') (ho : e.Ok N) (W : Nat → Vl) : att W e' = att (fun i => W (pm N k i)) e := by
  unfold Go.Proofs.Ytkeiakmfnammbaa.att
  rw [h.hdN ho, h.ev ho]
theorem Rn.ok (h : Rn N k e e') (ho : e.Ok N) (hN : 0 < N) : e'.Ok N := by
  refine ⟨?_, ?_, fun t ht => ?_, ?_⟩
  · rw [h.hd]
    exact ⟨Int.emod_nonneg _ (by omega), Int.emod_lt_of_pos _ (by omega)⟩
  · rw [h.cost]; exact ho.cost
  · rw [h.ts] at ht
    obtain ⟨u, _, rfl⟩ := List.mem_map.1 ht
    exact ⟨Int.emod_nonneg _ (by omega), Int.emod_lt_of_pos _ (by omega)⟩
  · rw [h.ts, List.length_map]; exact ho.few
end
theorem Sol.relabel {es esG : List Ed} {W : Nat → Vl} {N k : Nat} (h : Sol esG W) (ha : All2 (Rn N k) es esG) (hes : ∀ e ∈ es, e.Ok N) (hk : k < N) : Sol es (fun i => W (pm N k i)) := by
  refine ⟨fun i => h.nrm _, fun e he => ?_, fun U hU hp i => ?_⟩
  · obtain ⟨e', he', hr⟩ := ha.mem_l e he
    have h1 := h.pre e' he'
    rw [hr.ev (hes e he), hr.hdN (hes e he)] at h1
    exact h1
  · have h1 := h.top (fun j => U (qm N k j)) (fun j => hU _) (fun e' he' => by
      obtain ⟨e, he, hr⟩ := ha.mem_r e' he'
      have h2 := hp e he
      rw [hr.hdN (hes e he), hr.ev (hes e he)]
      show vle (U (qm N k (pm N k e.hd.toNat))) (Go.Proofs.Ytkeiakmfnammbaa.ev (fun i => U (qm N k (pm N k i))) e)
      simp only [qm_pm hk]
      exact h2) (pm N k i)
    simp only [qm_pm hk] at h1
    exact h1
theorem cho_relabel {es esG : List Ed} {W : Nat → Vl} {N k : Nat} (ha : All2 (Rn N k) es esG) (hes : ∀ e ∈ es, e.Ok N) (hk : k < N) (i : Nat) : cho W esG (pm N k i) = cho (fun i => W (pm N k i)) es i := by
  unfold cho
  rw [ha.find (p := isC (fun i => W (pm N k i)) i) (q := isC W (pm N k i)) (fun a b hm hr => ?_)]
  unfold isC
  rw [hr.att (hes a hm), hr.hdN (hes a hm)]
  congr 1
  by_cases h : a.hd.toNat = i
  · simp [h]
  · have : ¬ pm N k a.hd.toNat = pm N k i := fun e => h (pm_inj hk e)
    simp [h, this]
theorem own_base {w : World} {base base' : Nat} {e : TypeId} {size n : Nat} {v : Value} {xs : List Value} (h : w.ownsRow base e size v n xs) (hb : base' ≤ base) : w.ownsRow base' e size v n xs := by
  refine ⟨h.1, ?_⟩
  rcases h.2 with h1 | ⟨g, cap, cur, hv, hg, rest⟩
  · exact .inl h1
  · exact .inr ⟨g, cap, cur, hv, Nat.le_trans hb hg, rest⟩
theorem own_apart {w : World} {base base' : Nat} {e e' : TypeId} {size size' n n' k : Nat} {v v' : Value} {xs xs' : List Value} (h : w.ownsRow base e size v n xs) (h' : w.ownsRow base' e' size' v' n' xs') (hne : e' ≠ e) (hk : v.ownBlock = some k) : v'.ownBlock ≠ some k := by
  rcases h.2 with ⟨rfl, _⟩ | ⟨g, cap, cur, rfl, _, hg, _⟩
  · simp [Value.ownBlock] at hk
  · have : g = k := by simpa [Value.ownBlock] using hk
    subst this
    exact own_blk_ne h' (cs := cur) hg hne
/-- The rows of the tails, each the call's own. -/
def EdT (w : World) (L : List Ed) : Prop := ∀ e ∈ L, w.ownsRow 0 3 1 (.slice e.A e.ts.length e.c) e.ts.length (ints e.ts)
theorem EdT.nil (w : World) : EdT w [] := fun e he => by simp at he
section
variable {w w1 : World} {L : List Ed}
theorem EdT.below (h : EdT w L) (hb : Below w.heap.size w w1) : EdT w1 L := fun e he => own_below (h e he) hb
theorem EdT.grown {base n : Nat} {v : Value} {xs : List Value} (h : EdT w L) (hv : w.ownsRow base 43 5 v n xs) (hg : w.grownBy w1 v.ownBlock) : EdT w1 L := fun e he =>
  own_touch (h e he) (F := fun k => v.ownBlock = some k) (Touch.grown (Touch.refl _ _) hg (fun k hk => .inl hk)) (fun k hk e1 => own_apart (h e he) hv (by decide) hk e1)
theorem EdT.set {g : Nat} {cs : Array Value} (h : EdT w L) (hg : Blk w g 34 cs) (i : Nat) (x : Value) : EdT (w.setCell ⟨g, i, none⟩ x) L := fun e he =>
  own_touch (h e he) (F := fun k => k = g) ((Touch.refl (fun k => k = g) w).setCell (p := ⟨g, i, none⟩) (.inl rfl) x) (fun k hk e1 => own_blk_ne (h e he) hg (by decide) (by rw [hk, e1]))
theorem EdT.snoc {e : Ed} {base : Nat} (h : EdT w L) (he : w.ownsRow base 3 1 (.slice e.A e.ts.length e.c) e.ts.length (ints e.ts)) : EdT w (L ++ [e]) := fun x hx => by
  rcases List.mem_append.1 hx with hx | hx
  · exact h x hx
  · simp at hx
    subst hx
    exact own_base he (Nat.zero_le _)
theorem EdT.hg {base c : Nat} {A : Option Addr} (h : EdT w L) (ho : w.ownsRow base 43 5 (.slice A L.length c) L.length (eds L)) : HG w w.heap.size A L.length L :=
  ⟨Reads.of_own ho, fun e he => Reads.of_own (h e he)⟩
end
theorem take_map_snoc {ts : List Int} {j : Nat} {t : Int} (h : ts[j]? = some t) (f : Int → Int) : ints ((ts.take (j + 1)).map f) = ints ((ts.take j).map f) ++ [.int .i64 (f t)] := by
  rw [List.take_add_one, h]
  simp [ints]
end Go.Proofs.Ytkeiakmfnammbaa
