/- The parts of the law. -/
import Derived.Test.YtibdcnmaodmghaaGreatDoorAwT
import Derived.Test.YtibdcnmaodmghaaGreatDoorRc
import Derived.Test.YtibdcnmaodmghaaGreatDoorUa
import Derived.Test.YtibdcnmaodmghaaGreatDoorUc
import Derived.Test.YtibdcnmaodmghaaGreatDoorLb
section
namespace Go.Proofs.YtibdcnmaodmghaaGreatDoor
open Go.RowKit
set_option maxRecDepth 20000
/-- The blocks of a history, by their kinds. -/
def Kinds (w : World) (F : Nat → Prop) : Prop := ∀ k, F k → ∃ T cs fr, w.heap[k]? = some (.cells cs T fr) ∧ (T = 119 ∨ T = 44)
theorem hist_own {w : World} {F : Nat → Prop} {g : Nat} {h : HS} (hh : Hist w F g h) : ∃ F' : Nat → Prop, Hist w F' g h ∧ (∀ k, F' k → F k) ∧ Kinds w F' := by
  obtain ⟨vu, vr, K, hu, hr, hg, fu, fr, hx⟩ := hh
  refine ⟨fun k => k = g ∨ vu.ownBlock = some k ∨ vr.ownBlock = some k, ⟨vu, vr, K, hu, hr, .inl rfl, fun k hk => .inr (.inl hk), fun k hk => .inr (.inr hk), hx⟩, fun k hk => ?_, fun k hk => ?_⟩
  · rcases hk with rfl | hk | hk
    · exact hg
    · exact fu k hk
    · exact fr k hk
  · have row : ∀ {v : Value} {n : Nat} {xs : List Value}, w.ownsRow 0 44 3 v n xs → v.ownBlock = some k → ∃ T cs fr, w.heap[k]? = some (.cells cs T fr) ∧ (T = 119 ∨ T = 44) := by
      intro v n xs ho hv
      rcases ho.2 with ⟨rfl, _⟩ | ⟨g', cap, cur, rfl, _, hc, _⟩
      · cases hv
      · have : g' = k := by simpa [Value.ownBlock] using hv
        subst this
        exact ⟨44, cur, _, hc, .inr rfl⟩
    rcases hk with rfl | hk | hk
    · exact ⟨119, _, _, K, .inl rfl⟩
    · exact row hu hk
    · exact row hr hk
theorem Kinds.far {w : World} {F : Nat → Prop} (h : Kinds w F) {g : Nat} {T : TypeId} {cs : Array Value} (hb : Blk w g T cs) (h1 : T ≠ 119) (h2 : T ≠ 44) : ¬ F g := by
  intro hf
  obtain ⟨T', cs', fr, e, ht⟩ := h g hf
  rw [hb] at e
  injection e with e
  injection e with _ e _
  rcases ht with h | h
  · exact h1 (e.trans h)
  · exact h2 (e.trans h)
theorem Kinds.keep209 {w w' : World} {F : Nat → Prop} (h : Kinds w F) (ht : Touch F w w') : Keep209 w w' :=
  ⟨ht.size, fun g cs hb => hb.touch ht (h.far hb (by decide) (by decide))⟩
/-- The row lies elsewhere. -/
def Far (A : Option Addr) (n : Nat) (F : Nat → Prop) : Prop := 0 < n → ∀ b off, A = some ⟨b, off, none⟩ → ¬ F b
theorem Reads.touch {w w' : World} {B size n : Nat} {A : Option Addr} {xs : List Value} {F : Nat → Prop} (h : Reads w B size A n xs) (hB : B ≤ w.heap.size) (ht : Touch F w w') (hf : Far A n F) : Reads w' B size A n xs := by
  refine ⟨h.1, fun hn => ?_⟩
  obtain ⟨b, off, e, hb, hc⟩ := h.2 hn
  refine ⟨b, off, e, hb, fun j u hu => ?_⟩
  rw [World.cell?_of_block (a := ⟨b, off + j, none⟩) (ht.block b (by omega) (hf hn b off e))]
  exact hc j u hu
theorem ShIs.ptr' {t : ByteArray} {w : World} {v : Value} (h : ShIs t w v) : ∃ p, v = .pointer p := by
  rcases h.ptr with h | ⟨g, h⟩
  · exact ⟨_, h⟩
  · exact ⟨_, h⟩
theorem aft_below {w w1 w2 : World} (h : Below w.heap.size w w1) (hb : Below w1.heap.size w1 w2) : Below w.heap.size w w2 := h.trans (hb.mono h.size)
/-- What the loop holds, but for its slots. -/
structure Round (wc wr : World) (v : DfaV) (nd nr g : Nat) (i : Nat) (S : ByteArray) (A : Option Addr) (n : Nat) (h : HS) (p : Option Addr) (F : Nat → Prop) : Prop where
  bl : Below wc.heap.size wc wr
  dfa : Blk wr nd 27 #[.slice v.Ac v.nc v.cc, .slice v.An v.nn v.cn, .slice v.Aa v.na v.ca]
  rope : Blk wr nr 37 #[.pointer p]
  tree : ShIs S wr (.pointer p)
  hist : Hist wr F g h
  kinds : Kinds wr F
  base : ∀ k, F k → wc.heap.size ≤ k
  tk : Reads wr wr.heap.size 4 A n (toks (lexL Tryz.dfa0 S))
  far : Far A n F
  nrc : wc.heap.size ≤ nr
  ht : h.t = S
  hv : h.v ≤ i
  hu : h.U.length ≤ i
  hU : ∀ e ∈ h.U, e.ins.size ≤ 640
  hr : h.R = []
/-- Nothing that is known turns. -/
theorem Round.below {wc wr w' : World} {v : DfaV} {nd nr g i n : Nat} {S : ByteArray} {A : Option Addr} {h : HS} {p : Option Addr} {F : Nat → Prop} (r : Round wc wr v nd nr g i S A n h p F) (hb : Below wr.heap.size wr w') : Round wc w' v nd nr g i S A n h p F := by
  refine ⟨r.bl.trans (hb.mono r.bl.size), r.dfa.below hb r.dfa.lt, r.rope.below hb r.rope.lt, r.tree.below hb, r.hist.below hb, fun k hk => ?_, r.base, (r.tk.below hb).more hb.size, r.far, r.nrc, r.ht, r.hv, r.hu, r.hU, r.hr⟩
  obtain ⟨T, cs, fr, e, ht⟩ := r.kinds k hk
  have hlt : k < wr.heap.size := by
    rcases Nat.lt_or_ge k wr.heap.size with h' | h'
    · exact h'
    · rw [Array.getElem?_eq_none h'] at e; cases e
  exact ⟨T, cs, fr, (hb.block k hlt).trans e, ht⟩
end Go.Proofs.YtibdcnmaodmghaaGreatDoor
end

section
namespace Go.Proofs.YtibdcnmaodmghaaGreatDoor
open Go.RowKit
set_option maxRecDepth 20000
theorem apF_two (S : ByteArray) (e : Ed) : apF S e = 0 ∧ e.ok S.size = true ∨ apF S e = 2 ∧ e.ok S.size = false := by
  unfold apF
  cases e.ok S.size <;> simp
theorem apT_le (S : ByteArray) (e : Ed) : (apT S e).size ≤ S.size + e.ins.size := by
  cases h : e.ok S.size with
  | false => rw [apT, h]; exact Nat.zero_le _
  | true =>
    have := apT_size_ok h
    have h2 := (Ed.ok_iff.1 h).2.1
    omega
theorem Reads.set_far {w : World} {B n : Nat} {A : Option Addr} {l : List Tok} (h : Reads w B 4 A n (toks l)) {g : Nat} {t : TypeId} {a0 a1 a2 : Value} (K : Blk w g t #[a0, a1, a2]) (i : Nat) (u : Value) : Reads (w.setCell ⟨g, i, none⟩ u) B 4 A n (toks l) :=
  ⟨h.1, fun hn => by
    obtain ⟨b, off, e, hb, hc⟩ := h.2 hn
    have hl := h.1
    have hne : b ≠ g := by
      rintro rfl
      have := hc 3 _ (List.getElem?_eq_getElem (by omega))
      rw [K.cell, Array.getElem?_eq_none (by simp)] at this
      injection this
    refine ⟨b, off, e, hb, fun j x hx => (World.cell?_setCell_other _ _ _ _ (fun e => hne (by first | exact congrArg Addr.block e | exact (congrArg Addr.block e).symm))).trans (hc j x hx)⟩⟩
theorem Reads.set_far3 {w : World} {B n : Nat} {A : Option Addr} {l : List Tok} (h : Reads w B 4 A n (toks l)) {g : Nat} {t : TypeId} {a0 a1 a2 : Value} (K : Blk w g t #[a0, a1, a2]) (x0 x1 x2 : Value) :
    Reads (((w.setCell ⟨g, 0, none⟩ x0).setCell ⟨g, 1, none⟩ x1).setCell ⟨g, 2, none⟩ x2) B 4 A n (toks l) := by
  have K0 := K.set_ 0 x0
  simp at K0
  have K1 := K0.set_ 1 x1
  simp at K1
  exact ((h.set_far K 0 x0).set_far K0 1 x1).set_far K1 2 x2
/-- What is said of the new tokens. -/
def Up (f : Int) (T : ByteArray) (A' : Option Addr) (n' c' N : Nat) (wx : World) : Prop :=
  f = 0 → n' = (lexL Tryz.dfa0 T).length ∧ n' ≤ c' ∧ c' ≤ maxLen ∧ Reads wx wx.heap.size 4 A' n' (toks (lexL Tryz.dfa0 T)) ∧ ∀ b off, A' = some ⟨b, off, none⟩ → N ≤ b
theorem Up.alloc {f : Int} {T : ByteArray} {A' : Option Addr} {n' c' N : Nat} {wx : World} (h : Up f T A' n' c' N wx) (o : Obj) : Up f T A' n' c' N (wx.alloc o) := fun h0 => by
  obtain ⟨q1, q2, q3, q4, q5⟩ := h h0
  exact ⟨q1, q2, q3, (q4.alloc (Nat.le_refl _) o).more (by simp), q5⟩
theorem Up.set3 {f : Int} {T : ByteArray} {A' : Option Addr} {n' c' N g : Nat} {t : TypeId} {a0 a1 a2 : Value} {wx : World} (h : Up f T A' n' c' N wx) (K : Blk wx g t #[a0, a1, a2]) (x0 x1 x2 : Value) : Up f T A' n' c' N (((wx.setCell ⟨g, 0, none⟩ x0).setCell ⟨g, 1, none⟩ x1).setCell ⟨g, 2, none⟩ x2) := fun h0 => by
  obtain ⟨q1, q2, q3, q4, q5⟩ := h h0
  exact ⟨q1, q2, q3, by simpa using q4.set_far3 K x0 x1 x2, q5⟩
def RetUp (d : Dfa) (s : ByteArray) (y : Ed) (w : World) (e : Ending) (w' : World) : Prop :=
  ∃ (A' : Option Addr) (n' c' : Nat) (g1 g2 g3 : Int), e = .returned (.tuple #[.slice A' n' c', .agg #[.int .i64 g1, .int .i64 g2, .int .i64 g3], .int .i64 (apF s y)]) ∧ Below w.heap.size w w' ∧
    (apF s y = 0 → n' = (lexL d (apT s y)).length ∧ n' ≤ c' ∧ c' ≤ maxLen ∧ Reads w' w'.heap.size 4 A' n' (toks (lexL d (apT s y))) ∧ ∀ b off, A' = some ⟨b, off, none⟩ → w.heap.size ≤ b)
theorem update_all (v : DfaV) (d : Dfa) (kk B : Nat) (s : ByteArray) (A : Option Addr) (n c : Nat) (a b : Int) (t : ByteArray) (w : World) (hd : DfaAt w B v d) (ho : d.Ok kk) (hl : Reads w B 4 A n (toks (lexL d s))) (hB : B ≤ w.heap.size) (hnc : n ≤ c) (hc : c ≤ maxLen)
    (hs : s.size + t.size ≤ 1048576) :
    Calls Tryz.prog 14 #[.agg #[.slice v.Ac v.nc v.cc, .slice v.An v.nn v.cn, .slice v.Aa v.na v.ca], .slice A n c, .agg #[.int .i64 a, .int .i64 b, .string t]] w (RetUp d s ⟨a, b, t⟩ w) := by
  rcases apF_two s ⟨a, b, t⟩ with ⟨hf, hok⟩ | ⟨hf, hok⟩
  · have hok' := hok
    obtain ⟨h1, h2, _, _⟩ := Ed.ok_iff.1 hok'
    simp only at h1 h2
    obtain ⟨P, rfl⟩ := Int.eq_ofNat_of_zero_le h1
    obtain ⟨D, rfl⟩ := Int.eq_ofNat_of_zero_le h2
    refine (updateOk_any v d kk B s A n c P D t w hd ho hl hB hnc hc hs hok).mono ?_
    rintro e w' ⟨A', c', m, k, rfl, g1, g2, g3, _, g5, g6⟩
    exact ⟨A', _, c', _, _, _, by rw [hf], g5, fun _ => ⟨rfl, g1, g2, g3, g6⟩⟩
  · refine (updateNo_any v d B s A n c a b t w hl hB (by omega) hs hok).mono ?_
    rintro e w' ⟨rfl, hb⟩
    exact ⟨none, 0, 0, 0, 0, 0, by rw [hf], hb, fun h => by rw [hf] at h; cases h⟩
theorem doE_eq {h : HS} {y : Ed} (hs : h.t.size + y.ins.size ≤ 4000) : doE h y = apF h.t y := by
  have := apT_le h.t y
  unfold doE apF
  cases y.ok h.t.size with
  | false => rfl
  | true => rw [if_pos rfl, if_pos rfl, if_pos (by omega)]
theorem Round.small {wc wr : World} {v : DfaV} {nd nr g i n : Nat} {S : ByteArray} {A : Option Addr} {h : HS} {p : Option Addr} {F : Nat → Prop} (r : Round wc wr v nd nr g i S A n h p F) (hS : S.size ≤ 1000) (hi : i ≤ 100) : h.Small 1048576 900 ∧ h.v ≤ 1000000 := by
  have h1 := r.ht
  have h2 := r.hu
  have h3 := r.hv
  refine ⟨⟨by rw [h1]; omega, fun e he => Nat.le_trans (r.hU e he) (by omega), fun e he => ?_, by omega, ?_⟩, by omega⟩
  · rw [r.hr] at he; cases he
  · rw [r.hr]; exact Nat.zero_le _
/-- Behind Do of an edit that does not fit. -/
theorem Round.no {wc wr w' : World} {v : DfaV} {nd nr g i n : Nat} {S : ByteArray} {A : Option Addr} {h : HS} {p : Option Addr} {F : Nat → Prop} (r : Round wc wr v nd nr g i S A n h p F) (hp : HPost wr F g h w') :
    ∃ F', Round wc w' v nd nr g (i + 1) S A n h p F' := by
  obtain ⟨G, h1, h2, h3⟩ := hp
  obtain ⟨F', g1, g2, g3⟩ := hist_own h1
  have hz := r.bl.size
  refine ⟨F', ⟨r.bl.trans (h2.toBelow (fun k hk => r.base k hk) hz), r.dfa.touch h2 (r.kinds.far r.dfa (by decide) (by decide)), r.rope.touch h2 (r.kinds.far r.rope (by decide) (by decide)), r.tree.keep (r.kinds.keep209 h2), g1, g3, fun k hk => ?_, ((r.tk.touch (Nat.le_refl _) h2 r.far).more h2.size), fun hn b off e hf => ?_, r.nrc, r.ht, Nat.le_succ_of_le r.hv, Nat.le_succ_of_le r.hu, r.hU, r.hr⟩⟩
  · rcases h3 k (g2 k hk) with h | h
    · exact r.base k h
    · omega
  · rcases h3 b (g2 b hf) with h | h
    · exact r.far hn b off e h
    · obtain ⟨b', off', e', hb', _⟩ := r.tk.2 hn
      rw [e] at e'
      injection e' with e'
      injection e' with e1 _
      omega
/-- Behind Do of an edit that fits; the new tokens and the new tree are there. -/
theorem Round.yes {wc wr w' : World} {v : DfaV} {nd nr g i n n' nq : Nat} {S : ByteArray} {A A' : Option Addr} {h : HS} {p p' : Option Addr} {F : Nat → Prop} {y : Ed} (r : Round wc wr v nd nr g i S A n h p F) (hp : HPost wr F g (doH h y) w') (hy : doE h y = 0)
    (hS : S.size ≤ 400) (_hyi : y.ins.size ≤ 20) (hq : Blk wr nq 37 #[.pointer p']) (ht : ShIs (apT S y) wr (.pointer p')) (hl : Reads wr wr.heap.size 4 A' n' (toks (lexL Tryz.dfa0 (apT S y)))) (hf : ∀ b off, A' = some ⟨b, off, none⟩ → ¬ F b) (hf2 : ∀ b off, A' = some ⟨b, off, none⟩ → b ≠ nr) :
    Blk w' nq 37 #[.pointer p'] ∧ Blk w' nr 37 #[.pointer p] ∧ ∃ F', (∀ u : Value, u = .pointer p' → Round wc (w'.drew.setCell ⟨nr, 0, none⟩ u) v nd nr g (i + 1) (apT S y) A' n' (doH h y) p' F') := by
  obtain ⟨G, h1, h2, h3⟩ := hp
  obtain ⟨F', g1, g2, g3⟩ := hist_own h1
  have hz := r.bl.size
  have hq' := hq.touch h2 (r.kinds.far hq (by decide) (by decide))
  have hr' := r.rope.touch h2 (r.kinds.far r.rope (by decide) (by decide))
  have hd' := r.dfa.touch h2 (r.kinds.far r.dfa (by decide) (by decide))
  refine ⟨hq', hr', F', fun u hu => ?_⟩
  subst hu
  have hh : doH h y = ⟨apT h.t y, h.v + 1, h.U ++ [inv h.t y], []⟩ := by unfold doH; rw [if_pos hy]
  have hrd : Blk w'.drew nr 37 #[.pointer p] := hr'
  have hb1 : Below wc.heap.size wc w' := r.bl.trans (h2.toBelow (fun k hk => r.base k hk) hz)
  have tF : Touch (fun k => k = nr) w'.drew (w'.drew.setCell ⟨nr, 0, none⟩ (.pointer p')) := Touch.setCell (F := fun k => k = nr) (Touch.refl _ _) (p := ⟨nr, 0, none⟩) (.inl rfl) _
  have nrF : ¬ F' nr := g3.far hr' (by decide) (by decide)
  refine ⟨(below_drewN (n := 1) hb1).setCell (p := ⟨nr, 0, none⟩) r.nrc _, Blk.touch (w := w'.drew) hd' tF (fun e => ?_), hrd.set_ 0 _, ?_, Hist.touch (w := w'.drew) g1 tF (fun k hk e => nrF (e ▸ hk)), fun k hk => ?_, fun k hk => ?_, ?_, fun hn b off e hfb => ?_, r.nrc, by rw [hh, ← r.ht], by rw [hh]; have := r.hv; simp only; omega, by rw [hh]; have := r.hu; simp; omega, fun e he => ?_, by rw [hh]⟩
  · have e : nd = nr := e
    subst e
    exact absurd rfl (hd'.ne_ hr' (by decide))
  · exact (ht.keep (r.kinds.keep209 h2)).keep (Keep209.set (w := w'.drew) hrd (by decide) _)
  · obtain ⟨T, cs, fr, e, hT⟩ := g3 k hk
    refine ⟨T, cs, fr, ?_, hT⟩
    rw [tF.block k ?_ (fun e => nrF (e ▸ hk))]
    · exact e
    · exact (Array.getElem?_eq_some_iff.1 e).1
  · rcases h3 k (g2 k hk) with h | h
    · exact r.base k h
    · omega
  · have t1 : Reads w'.drew wr.heap.size 4 A' n' (toks (lexL Tryz.dfa0 (apT S y))) := hl.touch (w' := w'.drew) (Nat.le_refl _) (h2.drewN 1) (fun _ => hf)
    have t2 := t1.touch (w' := w'.drew.setCell ⟨nr, 0, none⟩ (.pointer p')) (F := fun k => k = nr) h2.size tF (fun _ b off e hb => hf2 b off e hb)
    exact t2.more (Nat.le_trans h2.size tF.size)
  · rcases h3 b (g2 b hfb) with h | h
    · exact hf b off e h
    · obtain ⟨b', off', e', hb', _⟩ := hl.2 hn
      rw [e] at e'
      injection e' with e'
      injection e' with e1 _
      omega
  · rw [hh] at he
    rcases List.mem_append.1 he with he | he
    · exact r.hU e he
    · rw [List.mem_singleton] at he
      subst he
      rw [r.ht]
      unfold inv
      split
      · simp; omega
      · exact Nat.zero_le _
end Go.Proofs.YtibdcnmaodmghaaGreatDoor
end
