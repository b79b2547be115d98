/- The rows of uses while they are built. -/
import Derived.Test.YtkeiakmfnammbaaKnBuild
namespace Go.Proofs.Ytkeiakmfnammbaa
open Go.RowKit

def SA.wu (a : SA) (us : List Ur) : SA := { a with us := us }
theorem SA.wu_self (a : SA) : a.wu a.us = a := rfl
def nats (l : List Nat) : List Value := ints (l.map fun k : Nat => (k : Int))
theorem nats_append (l : List Nat) (k : Nat) : nats (l ++ [k]) = nats l ++ [.int .i64 (k : Nat)] := by simp [nats, ints]
theorem nats_at (l : List Nat) {j k : Nat} (h : l[j]? = some k) : (nats l)[j]? = some (.int .i64 (k : Nat)) := by simp [nats, ints, h]
def Ur.sl (u : Ur) : Value := .slice u.A u.l.length u.c
structure URows (w : World) (b0 : Nat) (us : List Ur) : Prop where
  own : ∀ (i : Nat) (u : Ur), us[i]? = some u → w.ownsRow b0 3 1 u.sl u.l.length (nats u.l)
  apart : ∀ (i j : Nat) (u u' : Ur) (b : Nat), i ≠ j → us[i]? = some u → us[j]? = some u' → u.sl.ownBlock = some b → u'.sl.ownBlock ≠ some b
section
variable {w w1 : World} {b0 : Nat} {us : List Ur} {a : SA} {F : Nat → Prop} {V : List Vl} {S : List Bool} {O : List Int} {L : List Ent} {nx : Nat}
theorem URows.start (w : World) (b0 N : Nat) : URows w b0 (List.replicate N noUr) :=
  ⟨fun i u hu => by
    obtain ⟨_, rfl⟩ := List.mem_replicate.1 (List.mem_of_getElem? hu)
    exact World.ownsRow_nil _ _ _ _, fun i j u u' b _ hu _ hb => by
    obtain ⟨_, rfl⟩ := List.mem_replicate.1 (List.mem_of_getElem? hu)
    simp [noUr, Ur.sl, Value.ownBlock] at hb⟩
theorem own_ge {base : Nat} {e : TypeId} {size n k : Nat} {v : Value} {xs : List Value} (h : w.ownsRow base e size v n xs) (hv : v.ownBlock = some k) : base ≤ k := by
  rcases h.2 with ⟨rfl, _⟩ | ⟨g, cap, cur, rfl, hb, hgg, rest⟩
  · simp [Value.ownBlock] at hv
  · have : g = k := by simpa [Value.ownBlock] using hv
    omega
theorem URows.rowF (h : URows w b0 us) {u : Ur} (hu : u ∈ us) (h1 : a.va < b0) (h2 : a.sa < b0) (h3 : a.oa < b0) (hF : ∀ k, F k → k < b0) : RowF w a F u := fun j k hk => by
  obtain ⟨i, hi⟩ := List.getElem?_of_mem hu
  have own := h.own i u hi
  have hR : Reads w w.heap.size 1 u.A u.l.length (nats u.l) := Reads.of_own own
  have hl := (List.getElem?_eq_some_iff.1 hk).1
  obtain ⟨b, off, hA, hb, hc⟩ := hR.2 (by omega)
  have hge : b0 ≤ b := own_ge own (by simp [Ur.sl, hA, Value.ownBlock])
  refine ⟨b, off, hA, fun hf => ?_, by omega, by omega, by omega, hc j _ (nats_at _ hk)⟩
  have := hF b hf
  omega
theorem URows.touch (h : URows w b0 us) {X : Nat → Prop} (ht : Touch X w w1) (hX : ∀ k, X k → k < b0) : URows w1 b0 us :=
  ⟨fun i u hu => own_touch (h.own i u hu) ht fun k hk hx => by have := own_ge (h.own i u hu) hk; have := hX k hx; omega, h.apart⟩
theorem URows.below (h : URows w b0 us) (hb : Below w.heap.size w w1) : URows w1 b0 us := h.touch (X := fun _ => False) (Touch.of_below hb) (fun _ hk => hk.elim)
/-- What lies below b0 is kept. -/
theorem SM.belowB (h : SM w a F V S O L nx) (hb : Below b0 w w1) (h0 : b0 ≤ w.heap.size) (h1 : a.sb < b0 ∧ a.va < b0 ∧ a.sa < b0 ∧ a.oa < b0 ∧ a.ua < b0) (hF : ∀ k, F k → k < b0) (hr : ∀ u ∈ a.us, RowF w1 a F u) : SM w1 a F V S O L nx := by
  have hlo := h.lo
  refine ⟨⟨h.kS.1.below hb h1.1, h.kS.2⟩, ⟨h.kV.1.below hb h1.2.1, h.kV.2⟩, ⟨h.kB.1.below hb h1.2.2.1, h.kB.2⟩, ⟨h.kO.1.below hb h1.2.2.2.1, h.kO.2⟩, ⟨h.kU.1.below hb h1.2.2.2.2, h.kU.2⟩, h.lV, h.lS, h.lO, h.lU, hr, ?_, h.hE.below (hb.mono (by omega)), Nat.le_trans h.bs hb.size, h.lo⟩
  exact h.hQ.far (N := fun k => b0 ≤ k) ⟨hb.os, hb.tape, hb.output, hb.size, fun k hk hn => hb.block k (by omega)⟩ (fun k hk hn => by have := hF k hk; omega)
theorem ursC_set (us : List Ur) (t : Nat) (u : Ur) : (ursC (us.set t u)).toArray = (ursC us).toArray.setIfInBounds t u.sl := by simp [ursC, List.map_set, Ur.sl]
/-- A row is grown and laid down again. -/
theorem rows_append {t gg cap k : Nat} {u : Ur} (h : URows w b0 us) (hu : us[t]? = some u) (hgrow : w.grownBy w1 u.sl.ownBlock) (hown : w1.ownsRow b0 3 1 (.slice (some ⟨gg, 0, none⟩) (u.l.length + 1) cap) (u.l.length + 1) (nats u.l ++ [.int .i64 (k : Nat)]))
    (hat : u.sl.ownBlock = some gg ∨ w.heap.size ≤ gg) {ua : Nat} (hua : ua < b0) (x : Value) : URows (w1.setCell ⟨ua, t, none⟩ x) b0 (us.set t ⟨some ⟨gg, 0, none⟩, cap, u.l ++ [k]⟩) := by
  have hl := (List.getElem?_eq_some_iff.1 hu).1
  have hgg : ∀ i u', i ≠ t → us[i]? = some u' → u'.sl.ownBlock ≠ some gg := fun i u' hi hu' => by
    rcases hat with h1 | h1
    · exact h.apart t i u u' gg (fun e => hi e.symm) hu hu' h1
    · intro e
      have := own_lt (h.own i u' hu') e
      omega
  have hT : Touch (fun k => k = ua) w1 (w1.setCell ⟨ua, t, none⟩ x) := (Touch.refl (fun k => k = ua) w1).setCell (p := ⟨ua, t, none⟩) (.inl rfl) x
  refine ⟨fun i u' hu' => ?_, fun i j u' u'' b hij hu' hu'' hb => ?_⟩
  · rw [List.getElem?_set] at hu'
    by_cases hi : t = i
    · rw [if_pos hi, if_pos (by omega)] at hu'
      injection hu' with hu'
      subst hu'
      have hsl : (⟨some ⟨gg, 0, none⟩, cap, u.l ++ [k]⟩ : Ur).sl = .slice (some ⟨gg, 0, none⟩) (u.l.length + 1) cap := by simp [Ur.sl]
      rw [hsl]
      have hlen : (⟨some ⟨gg, 0, none⟩, cap, u.l ++ [k]⟩ : Ur).l.length = u.l.length + 1 := by simp
      rw [hlen]
      show World.ownsRow _ _ _ _ _ _ (nats (u.l ++ [k]))
      rw [nats_append]
      exact own_touch hown hT fun b hb e => by
        have := own_ge hown hb
        omega
    · rw [if_neg hi] at hu'
      have o1 := h.own i u' hu'
      have o2 := o1.kept hgrow (by
        cases hb : u'.sl.ownBlock with
        | none => exact .inl rfl
        | some b => exact .inr (fun e => h.apart i t u' u b (fun e => hi e.symm) hu' hu hb (by rw [← e])))
      exact own_touch o2 hT fun b hb e => by
        have := own_ge o2 hb
        omega
  · rw [List.getElem?_set] at hu' hu''
    by_cases hi : t = i
    · rw [if_pos hi, if_pos (by omega)] at hu'
      injection hu' with hu'
      subst hu'
      rw [if_neg (by omega)] at hu''
      have : gg = b := by simpa [Ur.sl, Value.ownBlock] using hb
      subst this
      exact hgg j u'' (by omega) hu''
    · rw [if_neg hi] at hu'
      by_cases hj : t = j
      · rw [if_pos hj, if_pos (by omega)] at hu''
        injection hu'' with hu''
        subst hu''
        intro e
        have : gg = b := by simpa [Ur.sl, Value.ownBlock] using e
        subst this
        exact hgg i u' (by omega) hu' hb
      · rw [if_neg hj] at hu''
        exact h.apart i j u' u'' b hij hu' hu'' hb
theorem SM.append {t gg cap k : Nat} {u : Ur} (h : SM w (a.wu us) F V S O L nx) (hr : URows w b0 us) (hu : us[t]? = some u) (hgrow : w.grownBy w1 u.sl.ownBlock) (hown : w1.ownsRow b0 3 1 (.slice (some ⟨gg, 0, none⟩) (u.l.length + 1) cap) (u.l.length + 1) (nats u.l ++ [.int .i64 (k : Nat)]))
    (hat : u.sl.ownBlock = some gg ∨ w.heap.size ≤ gg) (h0 : b0 ≤ w.heap.size) (h1 : a.sb < b0 ∧ a.va < b0 ∧ a.sa < b0 ∧ a.oa < b0 ∧ a.ua < b0) (hF : ∀ k, F k → k < b0) :
    SM (w1.setCell ⟨a.ua, t, none⟩ (.slice (some ⟨gg, 0, none⟩) (u.l.length + 1) cap)) (a.wu (us.set t ⟨some ⟨gg, 0, none⟩, cap, u.l ++ [k]⟩)) F V S O L nx ∧ URows (w1.setCell ⟨a.ua, t, none⟩ (.slice (some ⟨gg, 0, none⟩) (u.l.length + 1) cap)) b0 (us.set t ⟨some ⟨gg, 0, none⟩, cap, u.l ++ [k]⟩) ∧ Below a.base w (w1.setCell ⟨a.ua, t, none⟩ (.slice (some ⟨gg, 0, none⟩) (u.l.length + 1) cap)) ∧ Below b0 w w1 := by
  have hl := (List.getElem?_eq_some_iff.1 hu).1
  have hR := rows_append hr hu hgrow hown hat h1.2.2.2.2 (.slice (some ⟨gg, 0, none⟩) (u.l.length + 1) cap)
  have hrow : ∀ k, u.sl.ownBlock = some k → b0 ≤ k := fun k hk => own_ge (hr.own t u hu) hk
  have hB : Below b0 w w1 := (Below.refl b0 w).grown hgrow h0 hrow
  have hT : Touch (fun k => k = a.ua) w1 (w1.setCell ⟨a.ua, t, none⟩ (.slice (some ⟨gg, 0, none⟩) (u.l.length + 1) cap)) := (Touch.refl (fun k => k = a.ua) w1).setCell (p := ⟨a.ua, t, none⟩) (.inl rfl) _
  have hB2 : Below b0 w w1 := hB
  have hu' : ∀ k, a.ua = k → k < b0 := fun k e => by omega
  obtain ⟨n1, n2, n3, n4, n5, n6, n7, n8, n9, n10⟩ := h.nes
  have hlo := h.lo
  have hlo' : a.base ≤ a.sb ∧ a.base ≤ a.va ∧ a.base ≤ a.sa ∧ a.base ≤ a.oa ∧ a.base ≤ a.ua := hlo
  have hab : a.base ≤ b0 := by omega
  refine ⟨⟨⟨(h.kS.1.below hB h1.1).far (fun e => n4 e.symm) _, h.kS.2⟩, ⟨(h.kV.1.below hB h1.2.1).far n7 _, h.kV.2⟩, ⟨(h.kB.1.below hB h1.2.2.1).far n9 _, h.kB.2⟩, ⟨(h.kO.1.below hB h1.2.2.2.1).far n10 _, h.kO.2⟩, ⟨?_, h.kU.2⟩, h.lV, h.lS, h.lO, ?_, fun u' hu' => ?_, ?_, ?_, ?_, h.lo⟩, hR, ?_, hB⟩
  · show Blk _ _ _ (ursC (us.set t _)).toArray
    rw [ursC_set]
    have h3 := (h.kU.1.below hB h1.2.2.2.2).set_ t (.slice (some ⟨gg, 0, none⟩) (u.l.length + 1) cap)
    have e : (⟨some ⟨gg, 0, none⟩, cap, u.l ++ [k]⟩ : Ur).sl = .slice (some ⟨gg, 0, none⟩) (u.l.length + 1) cap := by simp [Ur.sl]
    rw [e]
    exact h3
  · show (us.set t _).length = _
    rw [List.length_set]
    exact h.lU
  · exact hR.rowF hu' h1.2.1 h1.2.2.1 h1.2.2.2.1 hF
  · exact (h.hQ.far (N := fun k => b0 ≤ k) ⟨hB.os, hB.tape, hB.output, hB.size, fun k hk hn => hB.block k (by omega)⟩ (fun k hk hn => by have := hF k hk; omega)).farCell h.kU.2 _
  · exact HG.farCell (B := a.base) (p := ⟨a.ua, t, none⟩) (h.hE.below (hB.mono hab)) hlo'.2.2.2.2 _
  · show a.base ≤ _
    have := hB.size
    simp only [World.setCell]
    simp
    omega
  · exact (hB.mono hab).setCell (p := ⟨a.ua, t, none⟩) hlo'.2.2.2.2 _
end
end Go.Proofs.Ytkeiakmfnammbaa
