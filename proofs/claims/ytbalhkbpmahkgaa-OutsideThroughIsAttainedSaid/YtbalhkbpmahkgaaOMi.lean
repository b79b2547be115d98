/- Derivations: their size, validity, value, bounds. -/
import Derived.Test.YtbalhkbpmahkgaaOMh
import Derived.Test.YtbalhkbpmahkgaaOMd
import Derived.Deep.DeepCutAuto
namespace Go.Proofs.Ytbalhkbpmahkgaa
open Go.RowKit

/-- A valid derivation of the root of that value, of that depth at most. -/
def Dc (es : List Ed) (w : World) (B : Nat) : Nat → Int → Value → Value → Vl → Prop
  | 0, _, _, _, _ => False
  | n + 1, root, v0, v1, x => ∃ (j : Nat) (e : Ed) (A : Option Addr) (c : Nat) (l : List (Value × Value)) (xs : List Vl), v0 = .int .i64 j ∧ v1 = .slice A e.ts.length c ∧ l.length = e.ts.length ∧ Reads w B 2 A e.ts.length (prs l) ∧ es[j]? = some e ∧ e.hd = root ∧ xs.length = e.ts.length ∧ x = comb e.cost xs ∧
      ∀ (i : Nat) (p : Value × Value) (t : Int) (y : Vl), l[i]? = some p → e.ts[i]? = some t → xs[i]? = some y → Dc es w B n t p.1 p.2 y
section
variable {es : List Ed} {w w' : World} {B B' : Nat}
theorem Dc.below (hb : Below B' w w') (hB : B ≤ B') : ∀ {n : Nat} {root : Int} {v0 v1 : Value} {x : Vl}, Dc es w B n root v0 v1 x → Dc es w' B n root v0 v1 x
  | 0, _, _, _, _, h => h.elim
  | n + 1, root, v0, v1, x, ⟨j, e, A, c, l, xs, h0, h1, h2, h3, h4, h5, h6, h7, h8⟩ => ⟨j, e, A, c, l, xs, h0, h1, h2, h3.below (hb.mono hB), h4, h5, h6, h7, fun i p t y a b c => Dc.below hb hB (h8 i p t y a b c)⟩
theorem Dc.more (hB : B ≤ B') : ∀ {n : Nat} {root : Int} {v0 v1 : Value} {x : Vl}, Dc es w B n root v0 v1 x → Dc es w B' n root v0 v1 x
  | 0, _, _, _, _, h => h.elim
  | n + 1, root, v0, v1, x, ⟨j, e, A, c, l, xs, h0, h1, h2, h3, h4, h5, h6, h7, h8⟩ => ⟨j, e, A, c, l, xs, h0, h1, h2, h3.more hB, h4, h5, h6, h7, fun i p t y a b c => Dc.more hB (h8 i p t y a b c)⟩
theorem Dc.up : ∀ {n m : Nat} {root : Int} {v0 v1 : Value} {x : Vl}, Dc es w B n root v0 v1 x → n ≤ m → Dc es w B m root v0 v1 x
  | 0, _, _, _, _, _, h, _ => h.elim
  | n + 1, 0, _, _, _, _, _, h => absurd h (by omega)
  | n + 1, m + 1, root, v0, v1, x, ⟨j, e, A, c, l, xs, h0, h1, h2, h3, h4, h5, h6, h7, h8⟩, h => ⟨j, e, A, c, l, xs, h0, h1, h2, h3, h4, h5, h6, h7, fun i p t y a b c => Dc.up (h8 i p t y a b c) (by omega)⟩
end
theorem LeL.of_at {α : Type} {f : α → Vl} : ∀ {ts : List α} {l : List Vl}, l.length = ts.length → (∀ (j : Nat) (t : α) (v : Vl), ts[j]? = some t → l[j]? = some v → vle (f t) v) → LeL (ts.map f) l
  | [], [], _, _ => .nil
  | [], v :: l, h, _ => by simp at h
  | t :: ts, [], h, _ => by simp at h
  | t :: ts, v :: l, h, hp => .cons (hp 0 t v rfl rfl) (LeL.of_at (by simpa using h) fun j t' v' h1 h2 => hp (j + 1) t' v' (by simpa using h1) (by simpa using h2))
section
variable {es : List Ed} {w : World} {B N : Nat} {U : Nat → Vl}
/-- Not below the least value. -/
theorem Dc.ge (hes : ∀ e ∈ es, e.Ok N) (hU : NrmF U) (hP : PreFix es U) : ∀ {n : Nat} {root : Int} {v0 v1 : Value} {x : Vl}, Dc es w B n root v0 v1 x → Nrm x ∧ vle (U root.toNat) x
  | 0, _, _, _, _, h => h.elim
  | n + 1, root, v0, v1, x, ⟨j, e, A, c, l, xs, h0, h1, h2, h3, h4, h5, h6, h7, h8⟩ => by
    have he := List.mem_of_getElem? h4
    have hall : ∀ (i : Nat) (t : Int) (y : Vl), e.ts[i]? = some t → xs[i]? = some y → Nrm y ∧ vle (U t.toNat) y := fun i t y ht hy => by
      have hi := (List.getElem?_eq_some_iff.1 ht).1
      exact Dc.ge hes hU hP (h8 i _ t y (List.getElem?_eq_getElem (by omega)) ht hy)
    have hn : ∀ v ∈ xs, Ordy v := fun v hv => by
      obtain ⟨i, hi⟩ := List.getElem?_of_mem hv
      have hil := (List.getElem?_eq_some_iff.1 hi).1
      exact (hall i _ v (List.getElem?_eq_getElem (by omega)) hi).1.1
    subst h7
    refine ⟨comb_nrm (hes e he).cost.1 hn, ?_⟩
    rw [← h5]
    refine (hP e he).trans ?_
    exact comb_mono (hes e he).cost.1 (LeL.of_at h6 fun i t v a b => (hall i t v a b).2) (tlv_ord hU e.ts) hn
end
theorem sumC_take {xs : List Vl} {i : Nat} {y : Vl} (h : xs[i]? = some y) : sumC (xs.take (i + 1)) = sumC (xs.take i) + y.c := by
  unfold sumC
  rw [List.take_add_one, h, List.map_append, List.sum_append]
  simp
theorem oth_le {I : Nat → Int} {ts : List Int} {xs : List Vl} (hl : xs.length = ts.length) (h : ∀ (i : Nat) (t : Int) (y : Vl), ts[i]? = some t → xs[i]? = some y → I t.toNat ≤ y.c) : ∀ i, i ≤ ts.length → oth I ts (-1) i ≤ sumC (xs.take i)
  | 0, _ => by simp [oth, sumC]
  | i + 1, hi => by
    have ih := oth_le hl h i (by omega)
    have ht : ts[i]? = some ts[i] := List.getElem?_eq_getElem (by omega)
    have hy : xs[i]? = some xs[i] := List.getElem?_eq_getElem (by omega)
    have := h i _ _ ht hy
    rw [sumC_take hy]
    unfold oth
    rw [ht, if_neg (by omega)]
    simp only [Option.getD_some]
    omega
theorem oth_le1 {I : Nat → Int} {ts : List Int} {xs : List Vl} (hl : xs.length = ts.length) (h : ∀ (i : Nat) (t : Int) (y : Vl), ts[i]? = some t → xs[i]? = some y → I t.toNat ≤ y.c) {k : Nat} {z : Vl} (hz : xs[k]? = some z) : ∀ i, i ≤ ts.length → oth I ts (k : Int) i + (if k < i then z.c else 0) ≤ sumC (xs.take i)
  | 0, _ => by simp [oth, sumC]
  | i + 1, hi => by
    have ih := oth_le1 hl h hz i (by omega)
    have ht : ts[i]? = some ts[i] := List.getElem?_eq_getElem (by omega)
    have hy : xs[i]? = some xs[i] := List.getElem?_eq_getElem (by omega)
    have := h i _ _ ht hy
    rw [sumC_take hy]
    unfold oth
    rw [ht]
    simp only [Option.getD_some]
    by_cases hik : i = k
    · subst hik
      rw [hz] at hy
      injection hy with hy
      rw [if_neg (by omega)] at ih
      rw [if_pos rfl, if_pos (by omega), ← hy]
      omega
    · rw [if_neg (by omega : ¬ (i : Int) = (k : Int))]
      by_cases hk : k < i
      · rw [if_pos hk] at ih
        rw [if_pos (by omega)]
        omega
      · rw [if_neg hk] at ih
        rw [if_neg (by omega)]
        omega
/-- What a derivation within the bound says of its first hyperedge, its node, its kids. -/
theorem Dc.within {es : List Ed} {w : World} {B N n r : Nat} {U : Nat → Vl} {O : Nat → Int} {root C : Int} {v0 v1 : Value} {x : Vl} (hes : ∀ e ∈ es, e.Ok N) (hs : Sol es U) (ho : OSol es (inC U) r N O) (hd : Dc es w B (n + 1) root v0 v1 x) (hC : mn (O root.toNat + x.c) ≤ C) :
    ∃ (j : Nat) (e : Ed) (A : Option Addr) (c : Nat) (l : List (Value × Value)) (xs : List Vl), v0 = .int .i64 j ∧ v1 = .slice A e.ts.length c ∧ l.length = e.ts.length ∧ Reads w B 2 A e.ts.length (prs l) ∧ es[j]? = some e ∧ e.hd = root ∧ xs.length = e.ts.length ∧ eth (inC U) O e ≤ C ∧ mn (O e.hd.toNat + inC U e.hd.toNat) ≤ C ∧
      ∀ (i : Nat) (p : Value × Value) (t : Int) (y : Vl), l[i]? = some p → e.ts[i]? = some t → xs[i]? = some y → Dc es w B n t p.1 p.2 y ∧ mn (O t.toNat + y.c) ≤ C := by
  have hge := hd.ge hes hs.nrm hs.pre
  obtain ⟨j, e, A, c, l, xs, h0, h1, h2, h3, h4, h5, h6, h7, h8⟩ := hd
  have he := List.mem_of_getElem? h4
  have hall : ∀ (i : Nat) (t : Int) (y : Vl), e.ts[i]? = some t → xs[i]? = some y → Nrm y ∧ inC U t.toNat ≤ y.c := fun i t y ht hy => by
    have hi := (List.getElem?_eq_some_iff.1 ht).1
    obtain ⟨a, b⟩ := Dc.ge hes hs.nrm hs.pre (h8 i _ t y (List.getElem?_eq_getElem (by omega)) ht hy)
    refine ⟨a, ?_⟩
    unfold inC
    unfold vle at b
    omega
  have hn : ∀ v ∈ xs, Ordy v := fun v hv => by
    obtain ⟨i, hi⟩ := List.getElem?_of_mem hv
    have hil := (List.getElem?_eq_some_iff.1 hi).1
    exact (hall i _ v (List.getElem?_eq_getElem (by omega)) hi).1.1
  have hc0 := (hes e he).cost.1
  have hxc : x.c = mn (e.cost + sumC xs) := by
    rw [h7, comb_closed hc0 hn]
    unfold mn
    split <;> simp only [vtop] <;> omega
  have hfull : xs.take e.ts.length = xs := by rw [← h6]; exact List.take_length
  have hO := (ho.pre.ord root.toNat).1
  refine ⟨j, e, A, c, l, xs, h0, h1, h2, h3, h4, h5, h6, ?_, ?_, fun i p t y hp ht hy => ⟨h8 i p t y hp ht hy, ?_⟩⟩
  · have := oth_le (I := inC U) h6 (fun i t y a b => (hall i t y a b).2) e.ts.length (Nat.le_refl _)
    rw [hfull] at this
    unfold eth
    rw [h5]
    unfold mn at *
    omega
  · have h9 : inC U root.toNat ≤ x.c := by
      have := hge.2
      unfold inC
      unfold vle at this
      omega
    rw [h5]
    unfold mn at *
    omega
  · have h9 := ho.pre.le e he i t ht
    have h10 := oth_le1 (I := inC U) h6 (fun i t y a b => (hall i t y a b).2) hy e.ts.length (Nat.le_refl _)
    rw [hfull, if_pos (List.getElem?_eq_some_iff.1 ht).1] at h10
    unfold rlx at h9
    rw [h5] at h9
    have := (hall i t y ht hy).1.1
    unfold Ordy at this
    unfold mn at *
    omega
end Go.Proofs.Ytbalhkbpmahkgaa

namespace Go.Proofs.Ytbalhkbpmahkgaa
open Go.RowKit

set_option maxRecDepth 100000 in
set_option maxHeartbeats 2000000 in
theorem size_any : ∀ (n : Nat) (w : World) (B : Nat) (v0 v1 : Value), Dvs w B n v0 v1 → B ≤ w.heap.size →
    Calls Try.prog 19 #[.agg #[v0, v1]] w fun e w' => (∃ s : Int, e = .returned (.int .i64 s)) ∧ Below w.heap.size w w' := by
  intro n
  induction n with
  | zero => intro w B v0 v1 hd _; exact hd.elim
  | succ n ih =>
    intro w B v0 v1 hd hB
    have HIH := Lib.hid ih
    obtain ⟨ed, A, c, l, rfl, rfl, hln, hR, hds⟩ := hd
    have HR := Lib.hid (hR.more hB)
    have HDS : Hid (∀ p ∈ l, Dvs w w.heap.size n p.1 p.2) := fun p hp => (hds p hp).more hB
    obtain ⟨K, hK⟩ : ∃ K, l.length = K := ⟨_, rfl⟩
    rw [hK] at HR hln ⊢
    have HKK := Lib.hid hK
    unfold maxLen at hln
    clear ih hR hds hK
    go_enter Try.func19, Try.ntmps19
    go_wp2_with fail
    obtain ⟨w1, hw1⟩ : ∃ w1, w.alloc (.cells #[.int .i64 ed, .slice A K c] 33) = w1 := ⟨_, rfl⟩
    obtain ⟨bd, hbd⟩ : ∃ bd, w.heap.size = bd := ⟨_, rfl⟩
    have HK1 : Hid (Blk w1 bd 33 #[.int .i64 ed, .slice A K c]) := by rw [← hw1]; exact Blk.new' w _ _ hbd
    have HB1 : Hid (Below w.heap.size w w1) := by rw [← hw1]; exact (Below.refl _ _).alloc (Nat.le_refl _) _
    try rw [hw1]
    try rw [hbd]
    clear hw1 hbd
    go_loopw [3, 4] (fun x y wr => ∃ (i : Nat) (s : Int), i ≤ K ∧ y = .int .i64 i ∧ x = .int .i64 s ∧ Hid (Blk wr bd 33 #[.int .i64 ed, .slice A K c]) ∧ Hid (Below w.heap.size w wr)) (fun _ y _ => K - (intOf y).toNat)
    case atStart => exact ⟨0, 1, Nat.zero_le _, rfl, rfl, HK1, HB1⟩
    case round =>
      obtain ⟨i, s, hi, rfl, rfl, HKD, HB⟩ := hrel
      clear HK1 HB1
      have d1 : wr.cell? ⟨bd, 1, none⟩ = some (.slice A K c) := HKD.out.cell 1
      by_cases hlt : i < K
      case neg =>
        have hltD : decide (i < K) = false := by simp [hlt]
        go_wp2_with fail
        go_ret
        exact ⟨⟨s, rfl⟩, HB.out⟩
      case pos =>
        have hltD : decide (i < K) = true := by simp [hlt]
        obtain ⟨p, hpi⟩ : ∃ p, l[i]? = some p := ⟨_, List.getElem?_eq_getElem (by have := HKK.out; omega)⟩
        obtain ⟨bk, ok, hA, hbk, u0, u1⟩ := (HR.out.below HB.out).pr_at hpi
        have HC := Lib.hid (HIH.out wr w.heap.size p.1 p.2 ((HDS.out p (List.mem_of_getElem? hpi)).below HB.out (Nat.le_refl _)) HB.out.size)
        rw [hA] at d1
        clear hA hpi hbk
        go_wp2_with fail
        refine HC.out.mono ?_
        rintro e w5 ⟨⟨y, rfl⟩, hb5⟩
        have HKD5 := Lib.hid (HKD.out.below hb5 HKD.out.lt)
        have HB5 : Hid (Below w.heap.size w w5) := HB.out.trans (hb5.mono HB.out.size)
        clear hb5 HKD HB HC d1 u0 u1
        go_wp2_with fail
        go_roundw
        case rel => exact ⟨i + 1, _, by omega, by go_num, rfl, HKD5, HB5⟩
        case measure => simp [intOf]; omega

theorem dv_ways (M N : Nat) (es : List Ed) (root ed : Int) (K : Nat) (hM : es.length = M) : decide (ed < 0) = true ∨ (decide (ed < 0) = false ∧ decide ((M : Int) ≤ ed) = true) ∨
    (∃ (j : Nat) (e : Ed), ed = (j : Int) ∧ j < M ∧ es[j]? = some e ∧ e.hd ≠ root) ∨ (∃ (j : Nat) (e : Ed), ed = (j : Int) ∧ j < M ∧ es[j]? = some e ∧ e.hd = root ∧ K ≠ e.ts.length) ∨
    (∃ (j : Nat) (e : Ed), ed = (j : Int) ∧ j < M ∧ es[j]? = some e ∧ e.hd = root ∧ K = e.ts.length) := by
  simp only [decide_eq_true_eq, decide_eq_false_iff_not]
  by_cases h1 : ed < 0
  · exact .inl h1
  by_cases h2 : (M : Int) ≤ ed
  · exact .inr (.inl ⟨h1, h2⟩)
  have hj : ed.toNat < M := by omega
  have he := List.getElem?_eq_getElem (show ed.toNat < es.length by omega)
  have hed : ed = (ed.toNat : Int) := by omega
  by_cases h3 : (es[ed.toNat]'(by omega)).hd = root
  · by_cases h4 : K = (es[ed.toNat]'(by omega)).ts.length
    · exact .inr (.inr (.inr (.inr ⟨_, _, hed, hj, he, h3, h4⟩)))
    · exact .inr (.inr (.inr (.inl ⟨_, _, hed, hj, he, h3, h4⟩)))
  · exact .inr (.inr (.inl ⟨_, _, hed, hj, he, h3⟩))
set_option maxRecDepth 100000 in
set_option maxHeartbeats 8000000 in
theorem dvalid_any (N M ce : Nat) (E : Option Addr) (es : List Ed) (HMM : Hid (es.length = M)) (HOK : Hid (∀ e ∈ es, e.Ok N)) (hM : M ≤ 60) (w0 : World) (B0 : Nat) (hE : HG w0 B0 E M es) (hB : B0 ≤ w0.heap.size) : ∀ (n : Nat) (w : World) (root : Int) (v0 v1 : Value), Below B0 w0 w → Dvs w0 B0 n v0 v1 →
    Calls Try.prog 20 #[.agg #[.int .i64 N, .slice E M ce], .int .i64 root, .agg #[v0, v1]] w (RetIf (∃ x, Dc es w0 B0 n root v0 v1 x) w) := by
  have HE := Lib.hid hE
  have HBB := Lib.hid hB
  clear hE hB
  intro n
  induction n with
  | zero => intro w root v0 v1 _ hd; exact hd.elim
  | succ n ih =>
    intro w root v0 v1 hw0 hd
    have HW0 := Lib.hid hw0
    have HZ := Lib.hid (Nat.le_trans HBB.out hw0.size)
    have HIH := Lib.hid ih
    obtain ⟨ed, A, c, l, rfl, rfl, hln, hR, hds⟩ := hd
    have HR := Lib.hid hR
    have HDS := Lib.hid hds
    obtain ⟨K, hK⟩ : ∃ K, l.length = K := ⟨_, rfl⟩
    rw [hK] at HR hln ⊢
    have HKK := Lib.hid hK
    unfold maxLen at hln
    clear ih hR hds hK hw0
    go_enter Try.func20, Try.ntmps20
    go_upto_region 1 with fail
    obtain ⟨w1, hw1⟩ : ∃ w1, (w.alloc (.cells #[.int .i64 N, .slice E M ce] 24)).alloc (.cells #[.int .i64 ed, .slice A K c] 33) = w1 := ⟨_, rfl⟩
    obtain ⟨bh, hbh⟩ : ∃ bh, w.heap.size = bh := ⟨_, rfl⟩
    have HK0 : Hid (Blk w1 bh 24 #[.int .i64 N, .slice E M ce]) := by rw [← hw1]; exact (Blk.new' w _ _ hbh).alloc _
    have HK1 : Hid (Blk w1 (bh + 1) 33 #[.int .i64 ed, .slice A K c]) := by rw [← hw1]; exact Blk.new' _ _ _ (by simp; omega)
    have HB1 : Hid (Below w.heap.size w w1) := by rw [← hw1]; exact ((Below.refl _ _).alloc (Nat.le_refl _) _).alloc (by simp) _
    try rw [hw1]
    try rw [hbh]
    clear hw1 hbh
    have a0 : w1.cell? ⟨bh, 0, none⟩ = some (.int .i64 N) := HK0.out.cell 0
    have a1 : w1.cell? ⟨bh, 1, none⟩ = some (.slice E M ce) := HK0.out.cell 1
    have d0 : w1.cell? ⟨bh + 1, 0, none⟩ = some (.int .i64 ed) := HK1.out.cell 0
    have d1 : w1.cell? ⟨bh + 1, 1, none⟩ = some (.slice A K c) := HK1.out.cell 1
    rcases dv_ways M N es root ed K HMM.out with h1 | ⟨h1, h2⟩ | ⟨j, e, rfl, hj, he, h3⟩ | ⟨j, e, rfl, hj, he, rfl, h3⟩ | ⟨j, e, rfl, hj, he, rfl, h3⟩
    case inl =>
      go_quiet (fail)
      go_wp2_with fail
      go_ret
      exact ⟨false, rfl, fun h => by simp at h, below_drewN HB1.out _⟩
    case inr.inl =>
      go_quiet (fail)
      go_wp2_with fail
      go_ret
      exact ⟨false, rfl, fun h => by simp at h, below_drewN HB1.out _⟩
    all_goals
      have h1 : decide ((j : Int) < 0) = false := by simp
      have h2 : decide ((M : Int) ≤ (j : Int)) = false := by simp; omega
      have h2' : decide (M ≤ j) = false := by simp; omega
      obtain ⟨b', off, e', hE', hb', he', p0, p1, p2, p3, p4, hRt⟩ := (HE.out.below (HW0.out.trans (HB1.out.mono HZ.out))).at_ hj
      obtain rfl : e = e' := by rw [he] at he'; injection he'
      rw [hE'] at a1
    case inr.inr.inl =>
      have hn1 : (e.hd != root) = true := by simp [h3]
      have hn2 : decide (e.hd = root) = false := by simp [h3]
      clear hE' he he' h3 hRt
      go_quiet (fail)
      go_wp2_with fail
      go_ret
      exact ⟨false, rfl, fun h => by simp at h, below_drewN HB1.out _⟩
    case inr.inr.inr.inl =>
      have hn3 : (K != e.ts.length) = true := by simp [h3]
      have hn4 : decide (K = e.ts.length) = false := by simp [h3]
      have hn5 : ((K : Int) != (e.ts.length : Int)) = true := by simp; omega
      clear hE' he he' h3 hRt
      go_quiet (fail)
      go_wp2_with fail
      go_ret
      exact ⟨false, rfl, fun h => by simp at h, below_drewN HB1.out _⟩
    case inr.inr.inr.inr =>
      have hoke := HOK.out e (List.mem_of_getElem? he)
      have HOKE := Lib.hid hoke
      have HEk := Lib.hid he
      obtain ⟨T, hT⟩ : ∃ T, e.ts.length = T := ⟨_, rfl⟩
      obtain rfl : K = T := by omega
      obtain ⟨eA, heA⟩ : ∃ eA, e.A = eA := ⟨_, rfl⟩
      rw [hT, heA] at p1
      have HRT : Hid (Reads w0 B0 1 eA K (ints e.ts)) := by
        rw [← hT, ← heA]
        exact HE.out.2 e (List.mem_of_getElem? he)
      have HTT := Lib.hid hT
      have HEE := Lib.hid hE'
      have hq1 : ((K : Int) != (K : Int)) = false := by simp
      have hK4 : K ≤ 4 := by rw [← hT]; exact hoke.few
      clear hE' he he' h3 hRt hoke hT heA
      go_quiet (fail)
      rename_i nq
      obtain ⟨w2, hw2⟩ : ∃ w2, w1.drewN nq = w2 := ⟨_, rfl⟩
      have HK02 : Hid (Blk w2 bh 24 #[.int .i64 N, .slice E M ce]) := by rw [← hw2]; exact HK0.out
      have HK12 : Hid (Blk w2 (bh + 1) 33 #[.int .i64 (j : Nat), .slice A K c]) := by rw [← hw2]; exact HK1.out
      have HB2 : Hid (Below w.heap.size w w2) := by rw [← hw2]; exact below_drewN HB1.out _
      have HP1 : Hid (w2.cell? ⟨b', off + j * 5 + 1, none⟩ = some (.slice eA K e.c)) := by rw [← hw2]; exact Lib.hid p1
      try rw [hw2]
      clear hw2 HK0 HK1 HB1 a0 a1 d0 d1 p0 p1 p2 p3 p4 hq1 h1 h2 h2' hb'
      go_wp2_with fail
      go_loopw [7] (fun x wr => ∃ i : Nat, i ≤ K ∧ x = .int .i64 i ∧ Hid (∀ (q : Nat) (p : Value × Value) (t : Int), q < i → l[q]? = some p → e.ts[q]? = some t → ∃ y, Dc es w0 B0 n t p.1 p.2 y) ∧ Hid (Below w2.heap.size w2 wr)) (fun x _ => K - (intOf x).toNat)
      case atStart => exact ⟨0, Nat.zero_le _, rfl, fun q p t hq => absurd hq (Nat.not_lt_zero _), Below.refl _ _⟩
      case round =>
        obtain ⟨i, hi, rfl, HI, HX⟩ := hrel
        have HB : Hid (Below w.heap.size w wr) := HB2.out.trans (HX.out.mono HB2.out.size)
        have HB0r : Hid (Below B0 w0 wr) := HW0.out.trans (HB.out.mono HZ.out)
        have d1 : wr.cell? ⟨bh + 1, 1, none⟩ = some (.slice A K c) := (HK12.out.below HX.out HK12.out.lt).cell 1
        by_cases hlt : i < K
        case neg =>
          have hltD : decide (i < K) = false := by simp [hlt]
          obtain rfl : K = i := by omega
          have HDC : Hid (∃ x, Dc es w0 B0 (n + 1) e.hd (.int .i64 (j : Nat)) (.slice A K c) x) := by
            have hex : ∀ q : Fin K, ∃ y : Vl, ∀ (p : Value × Value) (t : Int), l[q.1]? = some p → e.ts[q.1]? = some t → Dc es w0 B0 n t p.1 p.2 y := fun q => by
              have h1 := List.getElem?_eq_getElem (show q.1 < l.length by have := HKK.out; omega)
              have h2 := List.getElem?_eq_getElem (show q.1 < e.ts.length by have := HTT.out; omega)
              obtain ⟨y, hy⟩ := HI.out q.1 _ _ q.2 h1 h2
              refine ⟨y, fun p t hp ht => ?_⟩
              rw [h1] at hp
              rw [h2] at ht
              injection hp with hp
              injection ht with ht
              subst hp ht
              exact hy
            refine ⟨_, j, e, A, c, l, List.ofFn (fun q : Fin K => Classical.choose (hex q)), rfl, by rw [HTT.out], by rw [HKK.out, HTT.out], by rw [HTT.out]; exact HR.out, HEk.out, rfl, by rw [HTT.out]; simp, rfl, fun q p t y hp ht hy => ?_⟩
            have hqK : q < K := by have := (List.getElem?_eq_some_iff.1 ht).1; have := HTT.out; omega
            rw [List.getElem?_ofFn, dif_pos hqK] at hy
            injection hy with hy
            rw [← hy]
            exact Classical.choose_spec (hex ⟨q, hqK⟩) p t hp ht
          go_wp2_with fail
          go_ret
          exact ⟨true, rfl, fun _ => HDC.out, HB.out⟩
        case pos =>
          have hltD : decide (i < K) = true := by simp [hlt]
          obtain ⟨bt, ot, hA, hbt, q0⟩ := (HRT.out.below HB0r.out).int_at hlt
          obtain ⟨t, hti⟩ : ∃ t, e.ts[i]? = some t := ⟨_, List.getElem?_eq_getElem (by have := HTT.out; omega)⟩
          rw [hti] at q0
          simp only [Option.getD_some] at q0
          obtain ⟨p, hpi⟩ : ∃ p, l[i]? = some p := ⟨_, List.getElem?_eq_getElem (by have := HKK.out; omega)⟩
          obtain ⟨bk, ok, hAk, hbk, u0, u1⟩ := (HR.out.below HB0r.out).pr_at hpi
          have HTI := Lib.hid hti
          have HPI := Lib.hid hpi
          have HC : Hid (∀ w9, Below wr.heap.size wr w9 → Calls Try.prog 20 #[.agg #[.int .i64 N, .slice (some ⟨b', off, none⟩) M ce], .int .i64 t, .agg #[p.1, p.2]] w9 (RetIf (∃ x, Dc es w0 B0 n t p.1 p.2 x) w9)) := fun w9 h9 => by
            rw [← HEE.out]
            exact HIH.out w9 t p.1 p.2 (HB0r.out.trans (h9.mono (Nat.le_trans HZ.out HB.out.size))) (HDS.out p (List.mem_of_getElem? hpi))
          have H9 : Hid (∀ w9, Below wr.heap.size wr w9 → w9.cell? ⟨bh, 0, none⟩ = some (.int .i64 N) ∧ w9.cell? ⟨bh, 1, none⟩ = some (.slice (some ⟨b', off, none⟩) M ce) ∧ w9.cell? ⟨bh + 1, 0, none⟩ = some (.int .i64 (j : Nat)) ∧ w9.cell? ⟨bh + 1, 1, none⟩ = some (.slice (some ⟨bk, ok, none⟩) K c) ∧ w9.cell? ⟨b', off + j * 5 + 1, none⟩ = some (.slice (some ⟨bt, ot, none⟩) K e.c) ∧ w9.cell? ⟨bt, ot + i, none⟩ = some (.int .i64 t) ∧ w9.cell? ⟨bk, ok + i * 2, none⟩ = some p.1 ∧ w9.cell? ⟨bk, ok + i * 2 + 1, none⟩ = some p.2 ∧ Below wr.heap.size wr w9) := fun w9 h => by
            have Ka := (HK02.out.below HX.out HK02.out.lt).below h (HK02.out.below HX.out HK02.out.lt).lt
            have Kb := (HK12.out.below HX.out HK12.out.lt).below h (HK12.out.below HX.out HK12.out.lt).lt
            rw [hAk] at Kb
            rw [HEE.out] at Ka
            have c1 : wr.cell? ⟨b', off + j * 5 + 1, none⟩ = some (.slice eA K e.c) := (HX.out.cell (World.block_lt_of_cell? w2 _ HP1.out)).trans HP1.out
            rw [hA] at c1
            exact ⟨Ka.cell 0, Ka.cell 1, Kb.cell 0, Kb.cell 1, (h.cell (World.block_lt_of_cell? wr _ c1)).trans c1, (h.cell (World.block_lt_of_cell? wr _ q0)).trans q0, (h.cell (World.block_lt_of_cell? wr _ u0)).trans u0, (h.cell (World.block_lt_of_cell? wr _ u1)).trans u1, h⟩
          rw [hAk] at d1
          clear hA hAk hti hpi hbt hbk q0 u0 u1
          go_upto_region 6 with fail
          clear d1
          have hjI : (0 : Int) ≤ (j : Int) := by omega
          have hjM : (j : Int) < (M : Int) := by omega
          have B8 : Below wr.heap.size wr wr.drew := (Below.refl _ _).drew
          go_cut [68] (fun x68 wx => ∃ b : Bool, x68 = .bool (!b) ∧ (b = true → ∃ x, Dc es w0 B0 n t p.1 p.2 x) ∧ Below wr.heap.size wr wx)
          case first =>
            go_region_held3 (fun w9 => w9.cell? ⟨bh, 0, none⟩ = some (.int .i64 N) ∧ w9.cell? ⟨bh, 1, none⟩ = some (.slice (some ⟨b', off, none⟩) M ce) ∧ w9.cell? ⟨bh + 1, 0, none⟩ = some (.int .i64 (j : Nat)) ∧ w9.cell? ⟨bh + 1, 1, none⟩ = some (.slice (some ⟨bk, ok, none⟩) K c) ∧ w9.cell? ⟨b', off + j * 5 + 1, none⟩ = some (.slice (some ⟨bt, ot, none⟩) K e.c) ∧ w9.cell? ⟨bt, ot + i, none⟩ = some (.int .i64 t) ∧ w9.cell? ⟨bk, ok + i * 2, none⟩ = some p.1 ∧ w9.cell? ⟨bk, ok + i * 2 + 1, none⟩ = some p.2 ∧ Below wr.heap.size wr w9)
              (first | exact H9.out _ B8 | exact H9.out _ X5)
              (first
                | (go_at_call 20; (with_reducible refine (HC.out _ B8).mono ?_); rintro e5 w5 ⟨bb, rfl, hbb, hb5⟩; have X5 : Below wr.heap.size wr w5 := B8.trans (hb5.mono (Nat.le_refl _)); have HBBB := Lib.hid hbb; clear hbb hb5))
            all_goals
              go_wp2_with fail
              go_meet
              exact ⟨bb, rfl, HBBB.out, X5⟩
          case rest =>
            obtain ⟨bb, rfl, hbb, X5⟩ := hcut
            rename World => w8
            have HBBB := Lib.hid hbb
            have HX8 : Hid (Below w2.heap.size w2 w8) := HX.out.trans (X5.mono HX.out.size)
            have HB8 : Hid (Below w.heap.size w w8) := HB.out.trans (X5.mono HB.out.size)
            clear hbb X5 B8 H9 HC
            cases bb with
            | false =>
              go_wp2_with fail
              go_ret
              exact ⟨false, rfl, fun h => by simp at h, HB8.out⟩
            | true =>
              have HI2 : Hid (∀ (q : Nat) (p : Value × Value) (t : Int), q < i + 1 → l[q]? = some p → e.ts[q]? = some t → ∃ y, Dc es w0 B0 n t p.1 p.2 y) := fun q p' t' hq hp ht => by
                by_cases hqi : q = i
                · subst hqi
                  rw [HPI.out] at hp
                  rw [HTI.out] at ht
                  injection hp with hp
                  injection ht with ht
                  subst hp ht
                  first | exact HBBB.out rfl | exact HBBB.out trivial
                · exact HI.out q p' t' (by omega) hp ht
              go_wp2_with fail
              go_roundw
              case rel => exact ⟨i + 1, by omega, by go_num, HI2, HX8⟩
              case measure => simp [intOf]; omega
end Go.Proofs.Ytbalhkbpmahkgaa

namespace Go.Proofs.Ytbalhkbpmahkgaa
open Go.RowKit

set_option maxRecDepth 100000 in
set_option maxHeartbeats 8000000 in
theorem dvalue_any (N M ce : Nat) (E : Option Addr) (es : List Ed) (HMM : Hid (es.length = M)) (HOK : Hid (∀ e ∈ es, e.Ok N)) (hM : M ≤ 60) (w0 : World) (B0 : Nat) (hE : HG w0 B0 E M es) (hB : B0 ≤ w0.heap.size) (U : Nat → Vl) (hU : Hid (NrmF U)) (hP : Hid (PreFix es U)) : ∀ (n : Nat) (w : World) (root : Int) (v0 v1 : Value) (x : Vl), Below B0 w0 w → Dc es w0 B0 n root v0 v1 x →
    Calls Try.prog 22 #[.agg #[.int .i64 N, .slice E M ce], .agg #[v0, v1]] w fun e w' => e = .returned (.agg #[.int .i64 x.c, .int .i64 x.s]) ∧ Below w.heap.size w w' := by
  have HE := Lib.hid hE
  have HBB := Lib.hid hB
  clear hE hB
  intro n
  induction n with
  | zero => intro w root v0 v1 x _ hd; exact hd.elim
  | succ n ih =>
    intro w root v0 v1 x hw0 hd
    have HW0 := Lib.hid hw0
    have HZ := Lib.hid (Nat.le_trans HBB.out hw0.size)
    have HIH := Lib.hid ih
    obtain ⟨j, e, A, c, l, xs, rfl, rfl, hll, hR, he, rfl, hxl, rfl, hds⟩ := hd
    have HR := Lib.hid hR
    have HDS := Lib.hid hds
    have hoke := HOK.out e (List.mem_of_getElem? he)
    have HOKE := Lib.hid hoke
    have HEk := Lib.hid he
    have hjM : j < M := by have := (List.getElem?_eq_some_iff.1 he).1; have := HMM.out; omega
    obtain ⟨K, hK⟩ : ∃ K, e.ts.length = K := ⟨_, rfl⟩
    rw [hK] at HR hll hxl ⊢
    have HKK := Lib.hid (And.intro hll (And.intro hxl hK))
    have hK4 : K ≤ 4 := by rw [← hK]; exact hoke.few
    have HXO : Hid (∀ v ∈ xs, Ordy v) := fun v hv => by
      obtain ⟨i, hi⟩ := List.getElem?_of_mem hv
      have hil := (List.getElem?_eq_some_iff.1 hi).1
      have h := hds i _ _ v (List.getElem?_eq_getElem (show i < l.length by omega)) (List.getElem?_eq_getElem (show i < e.ts.length by omega)) hi
      exact (h.ge HOK.out hU.out hP.out).1.1
    obtain ⟨i0, hi0, hz0, hz1, hz2⟩ := info_parts infoVl3
    clear ih hR hds hK hw0 hll hxl he hoke
    go_enter Try.func22, Try.ntmps22
    go_wp2_with fail
    obtain ⟨w1, hw1⟩ : ∃ w1, ((w.alloc (.cells #[.int .i64 N, .slice E M ce] 24)).alloc (.cells #[.int .i64 (j : Nat), .slice A K c] 33)).alloc (.cells #[.int .i64 0, .int .i64 0] 38) = w1 := ⟨_, rfl⟩
    obtain ⟨bh, hbh⟩ : ∃ bh, w.heap.size = bh := ⟨_, rfl⟩
    have HK0 : Hid (Blk w1 bh 24 #[.int .i64 N, .slice E M ce]) := by rw [← hw1]; exact ((Blk.new' w _ _ hbh).alloc _).alloc _
    have HK1 : Hid (Blk w1 (bh + 1) 33 #[.int .i64 (j : Nat), .slice A K c]) := by rw [← hw1]; exact (Blk.new' _ _ _ (by simp; omega)).alloc _
    have HK2 : Hid (Blk w1 (bh + 2) 38 #[.int .i64 0, .int .i64 0]) := by rw [← hw1]; exact Blk.new' _ _ _ (by simp; omega)
    have HB1 : Hid (Below w.heap.size w w1) := by rw [← hw1]; exact (((Below.refl _ _).alloc (Nat.le_refl _) _).alloc (by simp) _).alloc (by simp; omega) _
    have HS1 : Hid (w1.heap.size = bh + 3) := by rw [← hw1, ← hbh]; exact Lib.hid (by simp)
    have HBH := Lib.hid hbh
    try rw [hw1]
    try rw [hbh]
    clear hw1 hbh
    go_loopw [5, 6] (fun a y wr => ∃ i : Nat, i ≤ K ∧ y = .int .i64 i ∧ Hid (wr.ownsRow (bh + 3) 38 2 a i (vls (xs.take i))) ∧ Hid (Below (bh + 3) w1 wr)) (fun _ y _ => K - (intOf y).toNat)
    case atStart => exact ⟨0, Nat.zero_le _, rfl, World.ownsRow_nil _ _ _ _, Below.refl _ _⟩
    case round =>
      obtain ⟨i, hi, rfl, HO, HX⟩ := hrel
      have hlt1 : bh + 1 < bh + 3 := by omega
      have hsz1 := HS1.out
      have hbh := HBH.out
      have HB : Hid (Below w.heap.size w wr) := HB1.out.trans (HX.out.mono (by omega))
      have HB0r : Hid (Below B0 w0 wr) := HW0.out.trans (HB.out.mono HZ.out)
      have d1 : wr.cell? ⟨bh + 1, 1, none⟩ = some (.slice A K c) := (HK1.out.below HX.out (by omega)).cell 1
      by_cases hlt : i < K
      case neg =>
        have hltD : decide (i < K) = false := by simp [hlt]
        obtain rfl : K = i := by omega
        have hte : xs.take K = xs := by rw [← HKK.out.2.1]; exact List.take_length
        rw [hte] at HO
        obtain ⟨A', c', rfl, _, _⟩ := own_form HO.out
        have HRA := Lib.hid (Reads.of_own HO.out)
        obtain ⟨b', off, e', hE', hb', he', p0, p1, p2, p3, p4, hRt⟩ := (HE.out.below HB0r.out).at_ hjM
        obtain rfl : e = e' := by rw [HEk.out] at he'; injection he'
        have a1 : wr.cell? ⟨bh, 1, none⟩ = some (.slice E M ce) := (HK0.out.below HX.out (by omega)).cell 1
        have d0 : wr.cell? ⟨bh + 1, 0, none⟩ = some (.int .i64 (j : Nat)) := (HK1.out.below HX.out (by omega)).cell 0
        rw [hE'] at a1
        have HK2r := Lib.hid (HK2.out.below HX.out (by omega))
        have hbs : w.heap.size ≤ bh + 2 := by omega
        clear hE' he' hRt hte p0 p1 p3 p4 hb' hsz1 hbh hlt1
        go_wp2_with (go_at_call 34; refine (rcombine_any e.cost A' K c' wr.heap.size xs wr HRA.out (Nat.le_refl _) HOKE.out.cost.1 HOKE.out.cost.2 HXO.out (by omega)).mono ?_; rintro e5 w5 ⟨rfl, hb5⟩; have HK25 := Lib.hid (HK2r.out.below hb5 HK2r.out.lt); have HB5 : Hid (Below w.heap.size w w5) := HB.out.trans (hb5.mono HB.out.size); have y0 := HK25.out.frozen 0; have y1 := HK25.out.frozen 1; have x0 := HK25.out.cell 0; have x1 := HK25.out.cell 1; simp at x0 x1)
        have r1 := HK25.out.set2 (.int .i64 (comb e.cost xs).c) (.int .i64 (comb e.cost xs).s)
        refine bodyPost_ret (results_val rfl rfl (r1.cell 0) (r1.cell 1)) rfl ?_
        exact ⟨rfl, (HB5.out.setCell hbs _).setCell hbs _⟩
      case pos =>
        have hltD : decide (i < K) = true := by simp [hlt]
        obtain ⟨p, hpi⟩ : ∃ p, l[i]? = some p := ⟨_, List.getElem?_eq_getElem (by have := HKK.out.1; omega)⟩
        obtain ⟨t, hti⟩ : ∃ t, e.ts[i]? = some t := ⟨_, List.getElem?_eq_getElem (by have := HKK.out.2.2; omega)⟩
        obtain ⟨y, hyi⟩ : ∃ y, xs[i]? = some y := ⟨_, List.getElem?_eq_getElem (by have := HKK.out.2.1; omega)⟩
        obtain ⟨bk, ok, hAk, hbk, u0, u1⟩ := (HR.out.below HB0r.out).pr_at hpi
        have HC : Hid (∀ w9, Below wr.heap.size wr w9 → Calls Try.prog 22 #[.agg #[.int .i64 N, .slice E M ce], .agg #[p.1, p.2]] w9 fun e' w' => e' = .returned (.agg #[.int .i64 y.c, .int .i64 y.s]) ∧ Below w9.heap.size w9 w') := fun w9 h9 =>
          HIH.out w9 t p.1 p.2 y (HB0r.out.trans (h9.mono (Nat.le_trans HZ.out HB.out.size))) (HDS.out i p t y hpi hti hyi)
        have HBK : Hid (bk < bh + 3) := by have := HZ.out; show bk < bh + 3; omega
        have H9 : Hid (∀ w9, Below (bh + 3) wr w9 → w9.cell? ⟨bh, 0, none⟩ = some (.int .i64 N) ∧ w9.cell? ⟨bh, 1, none⟩ = some (.slice E M ce) ∧ w9.cell? ⟨bh + 1, 1, none⟩ = some (.slice (some ⟨bk, ok, none⟩) K c) ∧ w9.cell? ⟨bk, ok + i * 2, none⟩ = some p.1 ∧ w9.cell? ⟨bk, ok + i * 2 + 1, none⟩ = some p.2) := fun w9 h => by
          have Ka := (HK0.out.below HX.out (by omega)).below h (by omega)
          have Kb := (HK1.out.below HX.out (by omega)).below h (by omega)
          rw [hAk] at Kb
          exact ⟨Ka.cell 0, Ka.cell 1, Kb.cell 1, (h.cell (p := ⟨bk, ok + i * 2, none⟩) HBK.out).trans u0, (h.cell (p := ⟨bk, ok + i * 2 + 1, none⟩) HBK.out).trans u1⟩
        have hsn : xs.take (i + 1) = xs.take i ++ [y] := by rw [List.take_add_one, hyi]; rfl
        have HSN := Lib.hid hsn
        have hszr : bh + 3 ≤ wr.heap.size := by have := HX.out.size; omega
        have HSZ := Lib.hid hszr
        rw [hAk] at d1
        clear hAk hpi hti hyi hbk u0 u1 hsn
        go_upto_region 5 with fail
        clear d1 hsz1 hbh hlt1
        have B8 : Below (bh + 3) wr wr.drew := (Below.refl _ _).drew
        have B8w : Below wr.heap.size wr wr.drew := (Below.refl _ _).drew
        have HO8 : Hid (wr.drew.ownsRow (bh + 3) 38 2 u5 i (vls (xs.take i))) := own_below HO.out B8w
        go_region_held3 (fun w9 => w9.cell? ⟨bh, 0, none⟩ = some (.int .i64 N) ∧ w9.cell? ⟨bh, 1, none⟩ = some (.slice E M ce) ∧ w9.cell? ⟨bh + 1, 1, none⟩ = some (.slice (some ⟨bk, ok, none⟩) K c) ∧ w9.cell? ⟨bk, ok + i * 2, none⟩ = some p.1 ∧ w9.cell? ⟨bk, ok + i * 2 + 1, none⟩ = some p.2)
          (first | exact H9.out _ B8 | exact H9.out _ X5 | exact H9.out _ (X5.alloc hz5 _) | exact H9.out _ X9)
          (first
            | (go_at_call 22; (with_reducible refine (HC.out _ B8w).mono ?_); rintro e5 w5 ⟨rfl, hb5⟩; have X5 : Below (bh + 3) wr w5 := B8.trans (hb5.mono HSZ.out); have hz5 : bh + 3 ≤ w5.heap.size := Nat.le_trans HSZ.out X5.size; have HO5 : Hid (w5.ownsRow (bh + 3) 38 2 u5 i (vls (xs.take i))) := own_below HO8.out hb5; have HO5a : Hid ((w5.alloc (.cells #[.int .i64 y.c, .int .i64 y.s] 38)).ownsRow (bh + 3) 38 2 u5 i (vls (xs.take i))) := HO5.out.alloc _; have NEWS : Hid (∀ q v, y.cells[q]? = some v → (w5.alloc (.cells #[.int .i64 y.c, .int .i64 y.s] 38)).cell? ((⟨w5.heap.size, 0, none⟩ : Addr).add q) = some v) := (fun q v hv => (by rw [Addr.add_lit, Nat.zero_add, (Blk.new' w5 38 #[.int .i64 y.c, .int .i64 y.s] rfl).cell]; simpa [Vl.cells] using hv)); clear hb5)
            | (refine step_append_lies _ (by rfl) _ _ 43 (by rfl) (bh + 3) 38 i0 (.agg #[.int .i64 0, .int .i64 0]) 2 16 Try.underlying43 hi0 hz0 hz1 hz2 rfl (by decide) u5 i (vls (xs.take i)) (by rfl) HO5a.out ⟨w5.heap.size, 0, none⟩ 1 1 y.cells (by rfl) (by rfl) NEWS.out (by simp [Vl.cells, Value.oneCell']) (by omega) (by unfold maxLen; omega) (by omega) (Nat.le_trans hz5 (by simp)) (w5.heap.size + 1) (by simp) ?_; intro gg cap w9 hown9 hgrow hat hlt9; have X9 : Below (bh + 3) wr w9 := (X5.alloc hz5 _).grown hgrow (Nat.le_trans hz5 (by simp)) (fun z hz => own_ge HO5a.out hz); have HO9 : Hid (w9.ownsRow (bh + 3) 38 2 (.slice (some ⟨gg, 0, none⟩) (i + 1) cap) (i + 1) (vls (xs.take (i + 1)))) := (by rw [HSN.out, vls_append, show vls [y] = y.cells from by simp [vls]]; exact hown9); clear hown9 hgrow hat hlt9))
        all_goals
          have HX9 : Hid (Below (bh + 3) w1 w9) := HX.out.trans X9
          go_wp2_with fail
          go_roundw
          case rel => exact ⟨i + 1, by omega, by go_num, HO9, HX9⟩
          case measure => simp [intOf]; omega
end Go.Proofs.Ytbalhkbpmahkgaa

namespace Go.Proofs.Ytbalhkbpmahkgaa
open Go.RowKit

set_option maxRecDepth 100000 in
set_option maxHeartbeats 8000000 in
theorem bounded_any (N M ce : Nat) (E : Option Addr) (es : List Ed) (HMM : Hid (es.length = M)) (HOK : Hid (∀ e ∈ es, e.Ok N)) (hM : M ≤ 60) (w0 : World) (B0 : Nat) (hE : HG w0 B0 E M es) (hB : B0 ≤ w0.heap.size) (U : Nat → Vl) (O : Nat → Int) (r : Nat) (hS : Hid (Sol es U)) (hO : Hid (OSol es (inC U) r N O)) (C : Int) (gn ge : Nat) (ln le : List Int)
    (hln : Hid (∀ i, i < N → ln[i]? = some (mn (O i + inC U i)))) (hle : Hid (∀ (k : Nat) (e : Ed), es[k]? = some e → le[k]? = some (eth (inC U) O e))) : ∀ (n : Nat) (w : World) (root : Int) (v0 v1 : Value) (x : Vl), Below B0 w0 w → Blk w gn 3 (ints ln).toArray → Blk w ge 3 (ints le).toArray → Dc es w0 B0 n root v0 v1 x → mn (O root.toNat + x.c) ≤ C →
    Calls Try.prog 21 #[.agg #[.int .i64 N, .slice E M ce], .slice (some ⟨gn, 0, none⟩) N N, .slice (some ⟨ge, 0, none⟩) M M, .agg #[v0, v1], .int .i64 C] w fun e w' => e = .returned (.bool true) ∧ Below w.heap.size w w' := by
  have HE := Lib.hid hE
  have HBB := Lib.hid hB
  clear hE hB
  intro n
  induction n with
  | zero => intro w root v0 v1 x _ _ _ hd; exact hd.elim
  | succ n ih =>
    intro w root v0 v1 x hw0 hgn hge hd hC
    have HW0 := Lib.hid hw0
    have HZ := Lib.hid (Nat.le_trans HBB.out hw0.size)
    have HIH := Lib.hid ih
    have HGN := Lib.hid hgn
    have HGE := Lib.hid hge
    obtain ⟨j, e, A, c, l, xs, rfl, rfl, hll, hR, he, rfl, hxl, hb1, hb2, hds⟩ := hd.within HOK.out hS.out hO.out hC
    have HR := Lib.hid hR
    have HDS := Lib.hid hds
    have hoke := HOK.out e (List.mem_of_getElem? he)
    have HOKE := Lib.hid hoke
    have HEk := Lib.hid he
    have hjM : j < M := by have := (List.getElem?_eq_some_iff.1 he).1; have := HMM.out; omega
    obtain ⟨K, hK⟩ : ∃ K, e.ts.length = K := ⟨_, rfl⟩
    rw [hK] at HR hll hxl ⊢
    have HKK := Lib.hid (And.intro hll (And.intro hxl hK))
    have hK4 : K ≤ 4 := by rw [← hK]; exact hoke.few
    obtain ⟨v, hv⟩ := Int.eq_ofNat_of_zero_le hoke.hd.1
    have hvN : v < N := by have := hoke.hd.2; omega
    obtain ⟨z1, hz1⟩ : ∃ z, eth (inC U) O e = z := ⟨_, rfl⟩
    obtain ⟨z2, hz2⟩ : ∃ z, mn (O v + inC U v) = z := ⟨_, rfl⟩
    rw [hz1] at hb1
    rw [hv, Int.toNat_natCast, hz2] at hb2
    have hD1 : decide (C < z1) = false := by simp; omega
    have hD2 : decide (C < z2) = false := by simp; omega
    have hq1 := hle.out j e he
    rw [hz1] at hq1
    have hq2 := hln.out v hvN
    rw [hz2] at hq2
    have HQ1 := Lib.hid hq1
    have HQ2 := Lib.hid hq2
    have HHV := Lib.hid hv
    clear ih hR hds hK hw0 hgn hge hd hC hll hxl he hoke hz1 hz2 hb1 hb2 hq1 hq2
    go_enter Try.func21, Try.ntmps21
    go_upto_region 1 with fail
    obtain ⟨w1, hw1⟩ : ∃ w1, (w.alloc (.cells #[.int .i64 N, .slice E M ce] 24)).alloc (.cells #[.int .i64 (j : Nat), .slice A K c] 33) = w1 := ⟨_, rfl⟩
    obtain ⟨bh, hbh⟩ : ∃ bh, w.heap.size = bh := ⟨_, rfl⟩
    have HK0 : Hid (Blk w1 bh 24 #[.int .i64 N, .slice E M ce]) := by rw [← hw1]; exact (Blk.new' w _ _ hbh).alloc _
    have HK1 : Hid (Blk w1 (bh + 1) 33 #[.int .i64 (j : Nat), .slice A K c]) := by rw [← hw1]; exact Blk.new' _ _ _ (by simp; omega)
    have HB1 : Hid (Below w.heap.size w w1) := by rw [← hw1]; exact ((Below.refl _ _).alloc (Nat.le_refl _) _).alloc (by simp) _
    have HGN1 := Lib.hid (HGN.out.below HB1.out HGN.out.lt)
    have HGE1 := Lib.hid (HGE.out.below HB1.out HGE.out.lt)
    try rw [hw1]
    try rw [hbh]
    clear hw1 hbh
    have a0 : w1.cell? ⟨bh, 0, none⟩ = some (.int .i64 N) := HK0.out.cell 0
    have a1 : w1.cell? ⟨bh, 1, none⟩ = some (.slice E M ce) := HK0.out.cell 1
    have d0 : w1.cell? ⟨bh + 1, 0, none⟩ = some (.int .i64 (j : Nat)) := HK1.out.cell 0
    have d1 : w1.cell? ⟨bh + 1, 1, none⟩ = some (.slice A K c) := HK1.out.cell 1
    have x0 := HGE1.out.gint HQ1.out
    have x1 := HGN1.out.gint HQ2.out
    obtain ⟨b', off, e', hE', hb', he', p0, p1, p2, p3, p4, hRt⟩ := (HE.out.below (HW0.out.trans (HB1.out.mono HZ.out))).at_ hjM
    obtain rfl : e = e' := by rw [HEk.out] at he'; injection he'
    rw [HHV.out] at p0
    have HEE := Lib.hid hE'
    rw [hE'] at a1
    clear hE' he' hRt p1 p2 p3 p4 hb'
    go_wp2_with fail
    clear a0 a1 d0 d1 x0 x1 p0 hD1 hD2
    go_loopw [11] (fun y wr => ∃ i : Nat, i ≤ K ∧ y = .int .i64 i ∧ Hid (Below w1.heap.size w1 wr)) (fun y _ => K - (intOf y).toNat)
    case atStart => exact ⟨0, Nat.zero_le _, rfl, Below.refl _ _⟩
    case round =>
      obtain ⟨i, hi, rfl, HX⟩ := hrel
      have HB : Hid (Below w.heap.size w wr) := HB1.out.trans (HX.out.mono HB1.out.size)
      have HB0r : Hid (Below B0 w0 wr) := HW0.out.trans (HB.out.mono HZ.out)
      have d1 : wr.cell? ⟨bh + 1, 1, none⟩ = some (.slice A K c) := (HK1.out.below HX.out HK1.out.lt).cell 1
      by_cases hlt : i < K
      case neg =>
        have hltD : decide (i < K) = false := by simp [hlt]
        go_wp2_with fail
        go_ret
        exact ⟨rfl, HB.out⟩
      case pos =>
        have hltD : decide (i < K) = true := by simp [hlt]
        obtain ⟨p, hpi⟩ : ∃ p, l[i]? = some p := ⟨_, List.getElem?_eq_getElem (by have := HKK.out.1; omega)⟩
        obtain ⟨t, hti⟩ : ∃ t, e.ts[i]? = some t := ⟨_, List.getElem?_eq_getElem (by have := HKK.out.2.2; omega)⟩
        obtain ⟨y, hyi⟩ : ∃ y, xs[i]? = some y := ⟨_, List.getElem?_eq_getElem (by have := HKK.out.2.1; omega)⟩
        obtain ⟨bk, ok, hAk, hbk, u0, u1⟩ := (HR.out.below HB0r.out).pr_at hpi
        obtain ⟨hdk, hck⟩ := HDS.out i p t y hpi hti hyi
        have HDK := Lib.hid (And.intro hdk hck)
        have HCL : Hid (∀ u : Ext wr, Calls Try.prog 21 #[.agg #[.int .i64 N, .slice E M ce], .slice (some ⟨gn, 0, none⟩) N N, .slice (some ⟨ge, 0, none⟩) M M, .agg #[p.1, p.2], .int .i64 C] u.W fun e' w' => e' = .returned (.bool true) ∧ Below u.W.heap.size u.W w') := fun u => by
          have hbu : Below w1.heap.size w1 u.W := HX.out.trans (u.h.mono HX.out.size)
          exact HIH.out u.W t p.1 p.2 y (HB0r.out.trans (u.h.mono (Nat.le_trans HZ.out HB.out.size))) (HGN1.out.below hbu HGN1.out.lt) (HGE1.out.below hbu HGE1.out.lt) HDK.out.1 HDK.out.2
        rw [hAk] at d1
        have f0 := ext_cell (show wr.cell? ⟨bh, 0, none⟩ = some (.int .i64 N) from (HK0.out.below HX.out HK0.out.lt).cell 0)
        have f1 := ext_cell (show wr.cell? ⟨bh, 1, none⟩ = some (.slice E M ce) from (HK0.out.below HX.out HK0.out.lt).cell 1)
        have f2 := ext_cell d1
        have f3 := ext_cell u0
        have f4 := ext_cell u1
        clear hAk hpi hti hyi hbk u0 u1 hdk hck
        go_upto_region 6 with fail
        clear d1
        refine wp_region_ext (by kernel_rfl) (by kernel_rfl) ?_
        repeat (go_big_quiet_step (with_reducible exact calls_ext (HCL.out _)))
        refine wpQuiet_nil ?_
        rintro _ ⟨u, rfl⟩
        have HXu : Hid (Below w1.heap.size w1 u.W) := HX.out.trans (u.h.mono HX.out.size)
        go_wp2_with fail
        go_roundw
        case rel => exact ⟨i + 1, by omega, by go_num, HXu⟩
        case measure => simp [intOf]; omega
end Go.Proofs.Ytbalhkbpmahkgaa
