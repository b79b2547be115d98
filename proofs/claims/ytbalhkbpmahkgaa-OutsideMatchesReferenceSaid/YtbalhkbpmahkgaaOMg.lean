/- The search for outside costs: its invariant, its memory. -/
import Derived.Test.YtbalhkbpmahkgaaOMc
import Derived.Test.YtbalhkbpmahkgaaOMf
import Derived.Test.YtbalhkbpmahkgaaOMs
namespace Go.Proofs.Ytbalhkbpmahkgaa
open Go.RowKit

/-- The list as a function; beyond it all is infinite. -/
def gi (l : List Int) (i : Nat) : Int := l[i]?.getD 1099511627776
theorem gi_at {l : List Int} {i : Nat} {x : Int} (h : l[i]? = some x) : gi l i = x := by simp [gi, h]
theorem gi_out {l : List Int} {i : Nat} (h : l.length ≤ i) : gi l i = 1099511627776 := by simp [gi, List.getElem?_eq_none h]
theorem gi_set {l : List Int} {t : Nat} (ht : t < l.length) (x : Int) (i : Nat) : gi (l.set t x) i = if t = i then x else gi l i := by
  unfold gi
  rw [List.getElem?_set]
  by_cases h : t = i
  · subst h
    rw [if_pos rfl, if_pos ht, if_pos rfl]
    rfl
  · rw [if_neg h, if_neg h]
theorem gi_rep (N : Nat) (i : Nat) : gi (List.replicate N 1099511627776) i = 1099511627776 := by
  unfold gi
  rw [List.getElem?_replicate]
  split <;> rfl
/-- A flag that is up. -/
def up (D : List Bool) (i : Nat) : Prop := D[i]? = some true
theorem up_set {D : List Bool} {v i : Nat} (h : up (D.set v true) i) : up D i ∨ i = v := by
  unfold up at *
  rw [List.getElem?_set] at h
  by_cases h1 : v = i
  · exact .inr h1.symm
  · rw [if_neg h1] at h
    exact .inl h
/-- What a hyperedge of a node of that cost lets its tail cost. -/
def rl (I : Nat → Int) (c : Int) (e : Ed) (k : Nat) : Int := mn (c + e.cost + oth I e.ts (k : Int) e.ts.length)
theorem rl_ge {I : Nat → Int} (hI : ∀ i, 0 ≤ I i) {c : Int} (hc : c ≤ 1099511627776) {e : Ed} (he : 0 ≤ e.cost) (k : Nat) : c ≤ rl I c e k := by
  have := oth_nn hI e.ts k e.ts.length
  unfold rl mn
  omega
/-- All inequalities of a node hold. -/
def Rx (es : List Ed) (I : Nat → Int) (out : List Int) (v : Nat) : Prop := ∀ e ∈ es, e.hd.toNat = v → ∀ (k : Nat) (t : Int), e.ts[k]? = some t → gi out t.toNat ≤ rl I (gi out v) e k
structure OInv (es : List Ed) (I : Nat → Int) (root : Int) (N : Nat) (busy : Option Nat) (out : List Int) (L : List Oq.Ent) (Mc : Int) (D : List Bool) : Prop where
  len : out.length = N
  lenD : D.length = N
  ord : ∀ i, 0 ≤ gi out i ∧ gi out i ≤ 1099511627776
  rt : ∀ i, i < N → (i : Int) = root → gi out i = 0
  top : ∀ G, OPre es I root N G → ∀ i, G i ≤ gi out i
  wit : ∀ v, v < N → busy ≠ some v → Rx es I out v ∨ ∃ x ∈ L, x.node = (v : Int) ∧ x.cost = gi out v
  ents : ∀ x ∈ L, 0 ≤ x.node ∧ x.node < N ∧ gi out x.node.toNat ≤ x.cost ∧ x.cost ≤ 1099511627776 ∧ Mc ≤ x.cost ∧ (up D x.node.toNat → gi out x.node.toNat < x.cost)
  dst : L.Pairwise fun x y => x.node = y.node → x.cost ≠ y.cost
  dn : ∀ v, up D v → gi out v ≤ Mc
  mc : 0 ≤ Mc
section
variable {es : List Ed} {I : Nat → Int} {root : Int} {N : Nat} {busy : Option Nat} {out : List Int} {L L' : List Oq.Ent} {Mc : Int} {D : List Bool}
theorem OInv.start {r : Nat} (hr : r < N) (hI : ∀ i, 0 ≤ I i) (hc : ∀ e ∈ es, 0 ≤ e.cost) (x : Oq.Ent) (h1 : x.cost = 0) (h2 : x.node = (r : Int)) : OInv es I r N none ((List.replicate N 1099511627776).set r 0) [x] 0 (List.replicate N false) := by
  have hg : ∀ i, gi ((List.replicate N 1099511627776).set r 0) i = if r = i then 0 else 1099511627776 := fun i => by
    rw [gi_set (by simpa using hr), gi_rep]
  have hup : ∀ i, ¬ up (List.replicate N false) i := fun i hi => by
    unfold up at hi
    rw [List.getElem?_replicate] at hi
    split at hi <;> simp at hi
  refine ⟨by simp, by simp, fun i => ?_, fun i _ hi => ?_, fun G hG i => ?_, fun v hv _ => ?_, fun y hy => ?_, List.pairwise_singleton _ _, fun v hv => absurd hv (hup v), Int.le_refl _⟩
  · rw [hg]; split <;> omega
  · rw [hg, if_pos (by omega)]
  · rw [hg]
    by_cases h : r = i
    · subst h
      rw [if_pos rfl, hG.root r hr rfl]
      exact Int.le_refl _
    · rw [if_neg h]
      exact (hG.ord i).2
  · by_cases h : r = v
    · subst h
      exact .inr ⟨x, by simp, h2, by rw [h1, hg, if_pos rfl]⟩
    · refine .inl fun e he _ k t _ => ?_
      have h3 : gi ((List.replicate N 1099511627776).set r 0) t.toNat ≤ 1099511627776 := by rw [hg]; split <;> omega
      have h4 := oth_nn hI e.ts k e.ts.length
      have h5 := hc e he
      rw [hg v, if_neg h]
      unfold rl mn
      omega
  · simp at hy
    subst hy
    refine ⟨by omega, by omega, ?_, by omega, by omega, fun h => absurd h (hup _)⟩
    rw [h1, h2, Int.toNat_natCast, hg, if_pos rfl]
    exact Int.le_refl _
theorem OSol.none {O : Nat → Int} (hr : ∀ i : Nat, i < N → (i : Int) ≠ root) (hI : ∀ i, 0 ≤ I i) (hc : ∀ e ∈ es, 0 ≤ e.cost) (hO : ∀ i, O i = 1099511627776) : OSol es I root N O := by
  refine ⟨⟨fun i => by rw [hO]; omega, fun i hi h => absurd h (hr i hi), fun e he k t _ => ?_⟩, fun i _ => hO i, fun G hG i => by rw [hO]; exact (hG.ord i).2⟩
  rw [hO]
  have := oth_nn hI e.ts k e.ts.length
  have := hc e he
  unfold rlx mn
  rw [hO]
  omega
/-- The queue is empty. -/
theorem OInv.done (h : OInv es I root N none out [] Mc D) (hes : ∀ e ∈ es, e.Ok N) : OSol es I root N (gi out) := by
  refine ⟨⟨h.ord, h.rt, fun e he k t hk => ?_⟩, fun i hi => gi_out (by rw [h.len]; exact hi), h.top⟩
  have h1 := (hes e he).hd
  rcases h.wit e.hd.toNat (by omega) (by simp) with h2 | ⟨x, hx, _⟩
  · exact h2 e he rfl k t hk
  · simp at hx
/-- An entry that is out of date. -/
theorem OInv.skip (h : OInv es I root N none out L Mc D) {m : Oq.Ent} (hp : L.Perm (m :: L')) (hm : gi out m.node.toNat < m.cost) : OInv es I root N none out L' Mc D := by
  refine ⟨h.len, h.lenD, h.ord, h.rt, h.top, fun v hv hb => ?_, fun x hx => h.ents x (hp.mem_iff.2 (by simp [hx])), ?_, h.dn, h.mc⟩
  · rcases h.wit v hv hb with h1 | ⟨x, hx, h2, h3⟩
    · exact .inl h1
    · rcases List.mem_cons.1 (hp.mem_iff.1 hx) with h4 | h4
      · subst h4
        rw [h2, Int.toNat_natCast] at hm
        omega
      · exact .inr ⟨x, h4, h2, h3⟩
  · exact ((hp.pairwise_iff (fun {a b} hab he hc => hab he.symm hc.symm)).1 h.dst).of_cons
/-- An entry that is taken. -/
theorem OInv.take (h : OInv es I root N none out L Mc D) {m : Oq.Ent} (hp : L.Perm (m :: L')) (hmin : ∀ x ∈ L', m.cost ≤ x.cost) {v : Nat} (hv : m.node = (v : Int)) (hm : ¬ gi out v < m.cost) :
    m.cost = gi out v ∧ v < N ∧ ¬ up D v ∧ OInv es I root N (some v) out L' m.cost (D.set v true) := by
  obtain ⟨e1, e2, e3, e4, e5, e6⟩ := h.ents m (hp.mem_iff.2 (by simp))
  rw [hv, Int.toNat_natCast] at e3 e6
  have hmc : m.cost = gi out v := by omega
  refine ⟨hmc, by omega, fun hu => by have := e6 hu; omega, h.len, by rw [List.length_set]; exact h.lenD, h.ord, h.rt, h.top, fun u hu hb => ?_, fun x hx => ?_, ?_, fun u hu => ?_, by have := h.mc; omega⟩
  · have huv : u ≠ v := fun e => hb (by rw [e])
    rcases h.wit u hu (by simp) with h1 | ⟨x, hx, h2, h3⟩
    · exact .inl h1
    · rcases List.mem_cons.1 (hp.mem_iff.1 hx) with h4 | h4
      · subst h4
        rw [hv] at h2
        omega
      · exact .inr ⟨x, h4, h2, h3⟩
  · obtain ⟨f1, f2, f3, f4, f5, f6⟩ := h.ents x (hp.mem_iff.2 (by simp [hx]))
    refine ⟨f1, f2, f3, f4, hmin x hx, fun hu => ?_⟩
    rcases up_set hu with h1 | h1
    · exact f6 h1
    · have hp1 := (hp.pairwise_iff (fun {a b} hab he hc => hab he.symm hc.symm)).1 h.dst
      have := (List.pairwise_cons.1 hp1).1 x hx (by omega)
      rw [h1] at f3 ⊢
      omega
  · exact ((hp.pairwise_iff (fun {a b} hab he hc => hab he.symm hc.symm)).1 h.dst).of_cons
  · rcases up_set hu with h1 | h1
    · have := h.dn u h1; omega
    · rw [h1]; omega
/-- A tail that grows cheaper. -/
theorem OInv.lower {v : Nat} (h : OInv es I root N (some v) out L Mc D) (hMc : gi out v = Mc) (hup : up D v) (hI : ∀ i, 0 ≤ I i) {e : Ed} (he : e ∈ es) (hev : e.hd.toNat = v) (h0 : 0 ≤ e.cost) {k t : Nat} (hk : e.ts[k]? = some (t : Int)) (ht : t < N) (hlt : rl I Mc e k < gi out t)
    (x : Oq.Ent) (h1 : x.cost = rl I Mc e k) (h2 : x.node = (t : Int)) : t ≠ v ∧ OInv es I root N (some v) (out.set t (rl I Mc e k)) (L ++ [x]) Mc D := by
  have hMI : Mc ≤ 1099511627776 := by rw [← hMc]; exact (h.ord v).2
  have hge := rl_ge hI hMI h0 k
  have htv : t ≠ v := fun hh => by subst hh; omega
  have hset := gi_set (l := out) (t := t) (by rw [h.len]; exact ht) (rl I Mc e k)
  have hle : ∀ i, gi (out.set t (rl I Mc e k)) i ≤ gi out i := fun i => by
    rw [hset]
    by_cases hi : t = i
    · subst hi; rw [if_pos rfl]; omega
    · rw [if_neg hi]; exact Int.le_refl _
  have hrI : rl I Mc e k ≤ 1099511627776 := mn_le _
  have hmc := h.mc
  refine ⟨htv, by rw [List.length_set]; exact h.len, h.lenD, fun i => ?_, fun i hi hr => ?_, fun G hG i => ?_, fun u hu hb => ?_, fun y hy => ?_, ?_, fun u hu => ?_, h.mc⟩
  · have := h.ord i
    rw [hset]
    split <;> omega
  · have h3 := h.rt i hi hr
    rw [hset]
    by_cases hi' : t = i
    · subst hi'; omega
    · rw [if_neg hi']; exact h3
  · rw [hset]
    by_cases hi' : t = i
    · subst hi'
      rw [if_pos rfl]
      have h3 := hG.le e he k t hk
      rw [Int.toNat_natCast] at h3
      refine Int.le_trans h3 ?_
      unfold rlx rl
      apply mn_mono
      have := h.top G hG v
      rw [hev]
      omega
    · rw [if_neg hi']; exact h.top G hG i
  · by_cases hut : t = u
    · subst hut
      exact .inr ⟨x, by simp, h2, by rw [h1, hset, if_pos rfl]⟩
    · have hgu : gi (out.set t (rl I Mc e k)) u = gi out u := by rw [hset, if_neg hut]
      rcases h.wit u hu hb with h3 | ⟨y, hy, h4, h5⟩
      · refine .inl fun e' he' hh k' t' hk' => ?_
        rw [hgu]
        exact Int.le_trans (hle _) (h3 e' he' hh k' t' hk')
      · exact .inr ⟨y, by simp [hy], h4, by rw [hgu]; exact h5⟩
  · rcases List.mem_append.1 hy with h3 | h3
    · obtain ⟨f1, f2, f3, f4, f5, f6⟩ := h.ents y h3
      have := hle y.node.toNat
      exact ⟨f1, f2, by omega, f4, f5, fun hu => by have := f6 hu; omega⟩
    · simp at h3
      subst h3
      refine ⟨by omega, by omega, ?_, by omega, by omega, fun hu => ?_⟩
      · rw [h2, Int.toNat_natCast, hset, if_pos rfl]; omega
      · rw [h2, Int.toNat_natCast] at hu
        have := h.dn t hu
        omega
  · rw [List.pairwise_append]
    refine ⟨h.dst, List.pairwise_singleton _ _, fun a ha b hb hn hc => ?_⟩
    simp at hb
    subst hb
    obtain ⟨f1, f2, f3, f4, f5, f6⟩ := h.ents a ha
    rw [hn, h2, Int.toNat_natCast] at f3
    omega
  · exact Int.le_trans (hle u) (h.dn u hu)
/-- All of the node's hyperedges were seen. -/
theorem OInv.free {v : Nat} (h : OInv es I root N (some v) out L Mc D) (hr : Rx es I out v) : OInv es I root N none out L Mc D :=
  ⟨h.len, h.lenD, h.ord, h.rt, h.top, fun u hu _ => by
    by_cases huv : u = v
    · subst huv; exact .inl hr
    · exact h.wit u hu (fun e => huv (by injection e with e; exact e.symm)), h.ents, h.dst, h.dn, h.mc⟩
end
/-- The rows of hyperedges by head, and what is still to be seen. -/
def hdn (es : List Ed) (k : Nat) : Nat := (es[k]?.map fun e => e.hd.toNat).getD 0
def tln (es : List Ed) (k : Nat) : Nat := (es[k]?.map fun e => e.ts.length).getD 0
def rowv (es : List Ed) (v : Nat) : Nat → List Nat
  | 0 => []
  | k + 1 => rowv es v k ++ (if hdn es k = v then [k] else [])
open Classical in
noncomputable def pend (es : List Ed) (D : List Bool) : Nat → Nat
  | 0 => 0
  | k + 1 => pend es D k + (if up D (hdn es k) then 0 else tln es k)
def tsum (es : List Ed) (l : List Nat) : Nat := (l.map (tln es)).sum
theorem tsum_append (es : List Ed) (l m : List Nat) : tsum es (l ++ m) = tsum es l + tsum es m := by simp [tsum]
theorem tsum_cons (es : List Ed) (k : Nat) (l : List Nat) : tsum es (k :: l) = tln es k + tsum es l := by simp [tsum]
theorem pend_set {es : List Ed} {D : List Bool} {v : Nat} (hv : v < D.length) (hD : ¬ up D v) : ∀ k, pend es (D.set v true) k + tsum es (rowv es v k) = pend es D k
  | 0 => rfl
  | k + 1 => by
    have ih := pend_set (es := es) hv hD k
    unfold pend rowv
    rw [tsum_append]
    by_cases h : hdn es k = v
    · have h1 : up (D.set v true) (hdn es k) := by unfold up; rw [h, List.getElem?_set, if_pos rfl, if_pos hv]
      rw [if_pos h1, if_pos h, if_neg (by rw [h]; exact hD), tsum_cons]
      simp [tsum] at *
      omega
    · have h1 : up (D.set v true) (hdn es k) ↔ up D (hdn es k) := by unfold up; rw [List.getElem?_set, if_neg (fun e => h e.symm)]
      rw [if_neg h]
      by_cases h2 : up D (hdn es k)
      · rw [if_pos h2, if_pos (h1.2 h2)]; simp [tsum] at *; omega
      · rw [if_neg h2, if_neg (fun x => h2 (h1.1 x))]; simp [tsum] at *; omega
theorem pend_le {es : List Ed} {D : List Bool} (h : ∀ k, tln es k ≤ 4) : ∀ k, pend es D k ≤ 4 * k
  | 0 => Nat.le_refl _
  | k + 1 => by
    have := pend_le (D := D) h k
    have := h k
    unfold pend
    split <;> omega
theorem mem_rowv {es : List Ed} {v i : Nat} : ∀ {k : Nat}, i < k → hdn es i = v → i ∈ rowv es v k
  | 0, h, _ => absurd h (Nat.not_lt_zero _)
  | k + 1, h, hh => by
    unfold rowv
    by_cases hk : i = k
    · subst hk; simp [hh]
    · exact List.mem_append_left _ (mem_rowv (by omega) hh)
theorem rowv_mem {es : List Ed} {v i : Nat} : ∀ {k : Nat}, i ∈ rowv es v k → i < k ∧ hdn es i = v
  | 0, h => by simp [rowv] at h
  | k + 1, h => by
    unfold rowv at h
    rcases List.mem_append.1 h with h | h
    · have := rowv_mem h; omega
    · split at h
      · simp at h; subst h; exact ⟨by omega, by assumption⟩
      · simp at h
theorem rowv_len (es : List Ed) (v : Nat) : ∀ k, (rowv es v k).length ≤ k
  | 0 => Nat.le_refl _
  | k + 1 => by
    have := rowv_len es v k
    unfold rowv
    rw [List.length_append]
    split <;> simp <;> omega
end Go.Proofs.Ytbalhkbpmahkgaa

namespace Go.Proofs.Ytbalhkbpmahkgaa
open Go.RowKit

theorem sum_take {l : List Int} {i : Nat} {x : Int} (h : l[i]? = some x) : (l.take (i + 1)).sum = (l.take i).sum + x := by
  rw [List.take_add_one, h, List.sum_append]
  simp
set_option maxHeartbeats 1000000 in
theorem sum_any (w : World) (B n c : Nat) (A : Option Addr) (l : List Int) (hl : Reads w B 1 A n (ints l)) (ho : ∀ x ∈ l, 0 ≤ x ∧ x ≤ 1099511627776) (hn : n ≤ 1000) :
    Calls Try.prog 32 #[.slice A n c] w fun e w' => e = .returned (.int .i64 (mn l.sum)) ∧ w' = w := by
  have HL := Lib.hid hl
  have HO := Lib.hid ho
  have hln := hl.len_ints
  have HLN := Lib.hid hln
  clear hl ho hln
  go_enter Try.func32, Try.ntmps32
  go_wp2_with fail
  go_loopw [3, 8] (fun x a wr => ∃ (i : Nat) (s : Int), i ≤ n ∧ a = .int .i64 i ∧ x = .int .i64 s ∧ Hid (s = mn (l.take i).sum ∧ 0 ≤ (l.take i).sum) ∧ wr = w) (fun _ a _ => n - (intOf a).toNat)
  case atStart => exact ⟨0, 0, Nat.zero_le _, rfl, rfl, ⟨by simp [mn]; decide, by simp⟩, rfl⟩
  case round =>
    obtain ⟨i, s, hi, rfl, rfl, HS, rfl⟩ := hrel
    by_cases hlt : i < n
    case neg =>
      have hltD : decide (i < n) = false := by simp [hlt]
      obtain rfl : n = i := by omega
      have hs := HS.out.1
      rw [show l.take n = l by rw [← HLN.out]; exact List.take_length] at hs
      have HS2 := Lib.hid hs
      clear hs
      go_wp2_with fail
      go_ret
      exact ⟨by rw [← HS2.out]; rfl, rfl⟩
    case pos =>
      have hltD : decide (i < n) = true := by simp [hlt]
      obtain ⟨b, off, hA, hb, p0⟩ := HL.out.int_at hlt
      obtain ⟨x, hx⟩ : ∃ x, l[i]? = some x := ⟨_, List.getElem?_eq_getElem (by have := HLN.out; omega)⟩
      rw [hx] at p0
      simp only [Option.getD_some] at p0
      have hxo := HO.out x (List.mem_of_getElem? hx)
      have hw1 : IntKind.i64.wrap (s + x) = s + x := IntWalk.i64_in _ (by have h1 := HS.out.1; have h2 := HS.out.2; unfold mn at h1; omega)
      have HX := Lib.hid (sum_take hx)
      have HXO := Lib.hid hxo
      clear hx hxo
      subst hA
      go_wp2_with fail
      go_roundw
      case rel => exact ⟨i + 1, _, by omega, by go_num, rfl, ⟨by rw [HX.out, HS.out.1]; exact mn_add HXO.out.1, by rw [HX.out]; have := HS.out.2; have := HXO.out.1; omega⟩, by trivial⟩
      case measure => simp [intOf]; omega
/-- The list holds the function's values. -/
def IsL (l : List Int) (N : Nat) (I : Nat → Int) : Prop := l.length = N ∧ ∀ i, i < N → l[i]? = some (I i)
set_option maxHeartbeats 4000000 in
theorem others_any (w : World) (B N cv : Nat) (Av : Option Addr) (il : List Int) (I : Nat → Int) (hd cost l0 l1 : Int) (A : Option Addr) (c : Nat) (ts : List Int) (k : Int) (hV : Reads w B 1 Av N (ints il)) (hI : IsL il N I) (hIo : ∀ i, 0 ≤ I i ∧ I i ≤ 1099511627776)
    (hR : Reads w B 1 A ts.length (ints ts)) (hB : B ≤ w.heap.size) (hts : ∀ t ∈ ts, 0 ≤ t ∧ t < N) (hfew : ts.length ≤ 1000) :
    Calls Try.prog 33 #[.agg #[.int .i64 hd, .slice A ts.length c, .int .i64 cost, .int .i64 l0, .int .i64 l1], .slice Av N cv, .int .i64 k] w fun e w' => e = .returned (.int .i64 (mn (oth I ts k ts.length))) ∧ Below w.heap.size w w' := by
  have HV := Lib.hid (hV.more hB)
  have HR := Lib.hid (hR.more hB)
  have HT := Lib.hid hts
  have HI := Lib.hid hI
  have HIO := Lib.hid hIo
  obtain ⟨n, hn⟩ : ∃ n, ts.length = n := ⟨_, rfl⟩
  rw [hn] at HR hfew ⊢
  have HN := Lib.hid hn
  clear hV hR hts hn hI hIo
  go_enter Try.func33, Try.ntmps33
  go_wp2_with fail
  obtain ⟨w1, hw1⟩ : ∃ w1, w.alloc (.cells #[.int .i64 hd, .slice A n c, .int .i64 cost, .int .i64 l0, .int .i64 l1] 48) = w1 := ⟨_, rfl⟩
  obtain ⟨be, hbe⟩ : ∃ be, w.heap.size = be := ⟨_, rfl⟩
  have HK1 : Hid (Blk w1 be 48 #[.int .i64 hd, .slice A n c, .int .i64 cost, .int .i64 l0, .int .i64 l1]) := by rw [← hw1]; exact Blk.new' w _ _ hbe
  have HB1 : Hid (Below w.heap.size w w1) := by rw [← hw1]; exact (Below.refl _ _).alloc (Nat.le_refl _) _
  try rw [hw1]
  try rw [hbe]
  clear hw1 hbe
  go_loopw [7, 13] (fun x a wr => ∃ (i : Nat) (s : Int), i ≤ n ∧ a = .int .i64 i ∧ x = .int .i64 s ∧ Hid (s = mn (oth I ts k i) ∧ 0 ≤ oth I ts k i) ∧ Hid (Blk wr be 48 #[.int .i64 hd, .slice A n c, .int .i64 cost, .int .i64 l0, .int .i64 l1]) ∧ Hid (Below w.heap.size w wr)) (fun _ a _ => n - (intOf a).toNat)
  case atStart => exact ⟨0, 0, Nat.zero_le _, rfl, rfl, ⟨by simp [mn, oth]; decide, by simp [oth]⟩, HK1, HB1⟩
  case round =>
    obtain ⟨i, s, hi, rfl, rfl, HS, HK, HBW⟩ := hrel
    clear HK1 HB1
    have b1 : wr.cell? ⟨be, 1, none⟩ = some (.slice A n c) := HK.out.cell 1
    by_cases hlt : i < n
    case neg =>
      have hltD : decide (i < n) = false := by simp [hlt]
      obtain rfl : n = i := by omega
      have HS2 := Lib.hid HS.out.1
      go_wp2_with fail
      go_ret
      exact ⟨by rw [← HS2.out]; rfl, HBW.out⟩
    case pos =>
      have hltD : decide (i < n) = true := by simp [hlt]
      obtain ⟨b, off, hA, hb, p0⟩ := (HR.out.below HBW.out).int_at hlt
      obtain ⟨t, hti⟩ : ∃ t, ts[i]? = some t := ⟨_, List.getElem?_eq_getElem (by have := HN.out; omega)⟩
      rw [hti] at p0
      simp only [Option.getD_some] at p0
      obtain ⟨t0, t1⟩ := HT.out t (List.mem_of_getElem? hti)
      obtain ⟨j, rfl⟩ := Int.eq_ofNat_of_zero_le t0
      have hj : j < N := by omega
      have HOT : Hid (oth I ts k (i + 1) = oth I ts k i + (if (i : Int) = k then 0 else I j)) := by
        show oth I ts k i + _ = _
        rw [hti]
        rfl
      have hnn := oth_nn (fun i => (HIO.out i).1) ts k (i + 1)
      have HNN := Lib.hid hnn
      subst hA
      by_cases hik : (i : Int) = k
      case pos =>
        have hD1 : ((i : Int) != k) = false := by simp [hik]
        have hD2 : decide ((i : Int) = k) = true := by simp [hik]
        have HE : Hid (oth I ts k (i + 1) = oth I ts k i) := by show _ = _; rw [HOT.out, if_pos hik]; omega
        clear hik hnn hti HOT
        go_wp2_with fail
        go_roundw
        case rel => exact ⟨i + 1, s, by omega, by go_num, rfl, ⟨by rw [HE.out]; exact HS.out.1, HNN.out⟩, HK, HBW⟩
        case measure => simp [intOf]; omega
      case neg =>
        have hD1 : ((i : Int) != k) = true := by simp [hik]
        have hD2 : decide ((i : Int) = k) = false := by simp [hik]
        have HE : Hid (oth I ts k (i + 1) = oth I ts k i + I j) := by show _ = _; rw [HOT.out, if_neg hik]
        obtain ⟨bv, ov, hAv, hbv, q0⟩ := (HV.out.below HBW.out).int_at hj
        rw [HI.out.2 j hj] at q0
        simp only [Option.getD_some] at q0
        have hIj := HIO.out j
        have hs0 : 0 ≤ s ∧ s ≤ 1099511627776 := by rw [HS.out.1]; exact ⟨mn_nn HS.out.2, mn_le _⟩
        have HSO := Lib.hid hs0
        have HIJ := Lib.hid hIj
        subst hAv
        clear hik hnn hti HOT hIj hs0
        go_wp2_with fail
        have hsu := sum_any (wr.alloc (.cells #[.int .i64 s, .int .i64 (I j)] 3)) (wr.heap.size + 1) 2 2 (some ⟨wr.heap.size, 0, none⟩) [s, I j] (Reads.of_blk (Blk.new' wr _ _ rfl) (by omega) rfl rfl) (by intro x hx; simp at hx; rcases hx with rfl | rfl; exact HSO.out; exact HIJ.out) (by decide)
        refine hsu.mono ?_
        rintro e w5 ⟨rfl, rfl⟩
        have HB5 : Hid (Below w.heap.size w (wr.alloc (.cells #[.int .i64 s, .int .i64 (I j)] 3))) := HBW.out.alloc HBW.out.size _
        have HK5 : Hid (Blk (wr.alloc (.cells #[.int .i64 s, .int .i64 (I j)] 3)) be 48 #[.int .i64 hd, .slice (some ⟨b, off, none⟩) n c, .int .i64 cost, .int .i64 l0, .int .i64 l1]) := HK.out.alloc _
        clear hsu
        go_wp2_with fail
        go_roundw
        case rel => exact ⟨i + 1, _, by omega, by go_num, rfl, ⟨by rw [HE.out, HS.out.1]; exact mn_add HIJ.out.1, HNN.out⟩, HK5, HB5⟩
        case measure => simp [intOf]; omega
end Go.Proofs.Ytbalhkbpmahkgaa

namespace Go.Proofs.Ytbalhkbpmahkgaa
open Go.RowKit

theorem Blk.set_ints {w : World} {g : Nat} {t : TypeId} {l : List Int} (h : Blk w g t (ints l).toArray) (k : Nat) (x : Int) : Blk (w.setCell ⟨g, k, none⟩ (.int .i64 x)) g t (ints (l.set k x)).toArray := by
  have := h.set_ k (.int .i64 x)
  have e : (ints (l.set k x)).toArray = (ints l).toArray.setIfInBounds k (.int .i64 x) := by simp [ints, List.map_set]
  rw [e]
  exact this
theorem Blk.gint {w : World} {g : Nat} {t : TypeId} {l : List Int} (h : Blk w g t (ints l).toArray) {k : Nat} {x : Int} (hk : l[k]? = some x) : w.cell? ⟨g, k, none⟩ = some (.int .i64 x) := by
  rw [h.cell]
  simp [ints, hk]
/-- A list while it is filled. -/
def fill (l : List Int) (i : Nat) : List Int := l.take i ++ List.replicate (l.length - i) 0
theorem fill_zero (l : List Int) : fill l 0 = List.replicate l.length 0 := by simp [fill]
theorem fill_end (l : List Int) : fill l l.length = l := by simp [fill]
theorem fill_len (l : List Int) {i : Nat} (h : i ≤ l.length) : (fill l i).length = l.length := by simp [fill]; omega
theorem fill_set {l : List Int} {i : Nat} {x : Int} (h : l[i]? = some x) : (fill l i).set i x = fill l (i + 1) := by
  obtain ⟨hi, hx⟩ := List.getElem?_eq_some_iff.1 h
  unfold fill
  rw [List.take_add_one, h, List.set_append_right _ _ (by simp; omega)]
  have : l.length - i = (l.length - (i + 1)) + 1 := by omega
  rw [this, List.replicate_succ]
  simp [List.length_take]
  rw [show i - min i l.length = 0 by omega]
  rfl
/-- What leaves a new list of ints. -/
def RetL (N : Nat) (P : List Int → Prop) (w : World) (e : Ending) (w' : World) : Prop :=
  ∃ (g : Nat) (l : List Int), e = .returned (.slice (some ⟨g, 0, none⟩) N N) ∧ l.length = N ∧ Blk w' g 3 (ints l).toArray ∧ P l ∧ w.heap.size ≤ g ∧ Below w.heap.size w w'
/-- The list of the inside costs. -/
def IsIn (es : List Ed) (l : List Int) : Prop := ∃ V : List Vl, Sol es (gv V) ∧ l = V.map Vl.c
theorem IsIn.isL {es : List Ed} {l : List Int} {N : Nat} (h : IsIn es l) (hl : l.length = N) : ∃ U : Nat → Vl, Sol es U ∧ IsL l N (inC U) := by
  obtain ⟨V, hs, rfl⟩ := h
  refine ⟨gv V, hs, hl, fun i hi => ?_⟩
  have hi' : i < V.length := by simpa using (by omega : i < (V.map Vl.c).length)
  simp [inC, gv, List.getElem?_eq_getElem hi']
set_option maxRecDepth 100000 in
set_option maxHeartbeats 4000000 in
theorem inside_any (w : World) (N ce B : Nat) (E : Option Addr) (es : List Ed) (hE : HG w B E es.length es) (hB : B ≤ w.heap.size) (hes : ∀ e ∈ es, e.Ok N) (hN : N ≤ 30) (hM : es.length ≤ 60) :
    Calls Try.prog 29 #[.agg #[.int .i64 N, .slice E es.length ce]] w (RetL N (IsIn es) w) := by
  have HE := Lib.hid (hE.more hB)
  have HOK := Lib.hid hes
  clear hE hes
  obtain ⟨M, hMM⟩ : ∃ M, es.length = M := ⟨_, rfl⟩
  rw [hMM] at HE hM ⊢
  have HMM := Lib.hid hMM
  clear hMM
  have hmk := mk_ints N (by omega)
  go_enter Try.func29, Try.ntmps29
  go_wp2_with fail
  obtain ⟨w1, hw1⟩ : ∃ w1, w.alloc (.cells #[.int .i64 N, .slice E M ce] 24) = w1 := ⟨_, rfl⟩
  rw [hw1]
  have HB1 : Hid (Below w.heap.size w w1) := by rw [← hw1]; exact (Below.refl _ _).alloc (Nat.le_refl _) _
  clear hw1
  have hs := solve_any w1 N ce w.heap.size E es (by rw [HMM.out]; exact HE.out.below HB1.out) HB1.out.size HOK.out hN (by rw [HMM.out]; exact hM)
  rw [HMM.out] at hs
  refine hs.mono ?_
  rintro e w2 ⟨va, ea, V, rfl, hVl, KV, _, hsol, _, _, hbw⟩
  have HV2 := Lib.hid KV
  have HS := Lib.hid (And.intro hsol hVl)
  have HB2 : Hid (Below w.heap.size w w2) := HB1.out.trans (hbw.mono HB1.out.size)
  clear hs hsol hVl KV hbw HB1
  go_upto_region 3 with fail
  obtain ⟨w3, hw3⟩ : ∃ w3, w2.alloc (.cells (ints (List.replicate N 0)).toArray 3) = w3 := ⟨_, rfl⟩
  rw [hw3]
  obtain ⟨g, hg⟩ : ∃ g, w2.heap.size = g := ⟨_, rfl⟩
  obtain ⟨l, hl⟩ : ∃ l, V.map Vl.c = l := ⟨_, rfl⟩
  have hll : l.length = N := by rw [← hl]; simp [HS.out.2]
  have HLL := Lib.hid hll
  have HKG : Hid (Blk w3 g 3 (ints (fill l 0)).toArray) := by rw [← hw3, fill_zero, hll]; exact Blk.new' w2 _ _ hg
  have hx3 : Below w2.heap.size w2 w3 := by rw [← hw3]; exact (Below.refl _ _).alloc (Nat.le_refl _) _
  have HV3 := Lib.hid (HV2.out.below hx3 HV2.out.lt)
  have HB3 : Hid (Below w.heap.size w w3) := HB2.out.trans (hx3.mono HB2.out.size)
  have HG : Hid (w.heap.size ≤ g ∧ va < g) := by rw [← hg]; exact ⟨HB2.out.size, HV2.out.lt⟩
  have HIN : Hid (IsIn es l) := ⟨V, HS.out.1, hl.symm⟩
  have HL := Lib.hid hl
  try rw [hg]
  clear hw3 hg hx3 hmk HV2 HB2 hll hl
  go_wp2_with fail
  go_loopw [18] (fun x wr => ∃ i : Nat, i ≤ N ∧ x = .int .i64 i ∧ Hid (Blk wr g 3 (ints (fill l i)).toArray) ∧ Hid (Blk wr va 38 (vls V).toArray) ∧ Hid (Below w.heap.size w wr)) (fun x _ => N - (intOf x).toNat)
  case atStart => exact ⟨0, Nat.zero_le _, rfl, HKG, HV3, HB3⟩
  case round =>
    obtain ⟨i, hi, rfl, HK, HV, HB⟩ := hrel
    clear HKG HV3 HB3
    by_cases hlt : i < N
    case neg =>
      have hltD : decide (i < N) = false := by simp [hlt]
      obtain rfl : N = i := by omega
      have HK2 : Hid (Blk wr g 3 (ints l).toArray) := by have := HK.out; rw [← HLL.out, fill_end] at this; exact this
      go_wp2_with fail
      go_ret
      exact ⟨g, l, rfl, HLL.out, HK2.out, HIN.out, HG.out.1, HB.out⟩
    case pos =>
      have hltD : decide (i < N) = true := by simp [hlt]
      obtain ⟨v, hv⟩ : ∃ v, V[i]? = some v := ⟨_, List.getElem?_eq_getElem (by have := HS.out.2; omega)⟩
      obtain ⟨v0, v1⟩ := HV.out.vl_at hv
      have hli : l[i]? = some v.c := by rw [← HL.out, List.getElem?_map, hv]; rfl
      obtain ⟨y, hy⟩ : ∃ y, (fill l i)[i]? = some y := ⟨_, List.getElem?_eq_getElem (by rw [fill_len l (by rw [HLL.out]; omega), HLL.out]; exact hlt)⟩
      have HLI := Lib.hid hli
      have hvl : va < wr.heap.size := HV.out.lt
      obtain ⟨w5, hw5⟩ : ∃ w5, wr.alloc (.cells #[.int .i64 v.c, .int .i64 v.s] 38) = w5 := ⟨_, rfl⟩
      have hx5 : Below wr.heap.size wr w5 := by rw [← hw5]; exact (Below.refl _ _).alloc (Nat.le_refl _) _
      have HK5 := Lib.hid (HK.out.below hx5 HK.out.lt)
      have HV5 := Lib.hid (HV.out.below hx5 HV.out.lt)
      have HB5 : Hid (Below w.heap.size w w5) := HB.out.trans (hx5.mono HB.out.size)
      have HN5 : Hid (Blk w5 wr.heap.size 38 #[.int .i64 v.c, .int .i64 v.s]) := by rw [← hw5]; exact Blk.new' wr _ _ rfl
      clear hv hli
      go_upto_region 6 with fail
      try rw [hw5]
      have n0 : w5.cell? ⟨wr.heap.size, 0, none⟩ = some (.int .i64 v.c) := HN5.out.cell 0
      have x0 := HK5.out.gint hy
      have y0 := HK5.out.frozen i
      have hgn : g ≠ va := by have := HG.out; omega
      have HKf := Lib.hid (HK5.out.set_ints i v.c)
      rw [fill_set HLI.out] at HKf
      have HVf : Hid (Blk (w5.setCell ⟨g, i, none⟩ (.int .i64 v.c)) va 38 (vls V).toArray) := HV5.out.far (p := ⟨g, i, none⟩) (fun e => hgn e.symm) _
      have HBf : Hid (Below w.heap.size w (w5.setCell ⟨g, i, none⟩ (.int .i64 v.c))) := HB5.out.setCell (p := ⟨g, i, none⟩) HG.out.1 _
      clear hw5 hx5 v0 v1 hvl hy
      go_wp2_with fail
      go_roundw
      case rel => exact ⟨i + 1, by omega, by go_num, HKf, HVf, HBf⟩
      case measure => simp [intOf]; omega
end Go.Proofs.Ytbalhkbpmahkgaa

namespace Go.Proofs.Ytbalhkbpmahkgaa
open Go.RowKit

/-- What the rows hold behind k hyperedges. -/
def Uh (N : Nat) (us : List Ur) (es : List Ed) (k : Nat) : Prop := ∀ n, n < N → ∃ u, us[n]? = some u ∧ u.l = rowv es n k
theorem uh_start (N : Nat) (es : List Ed) : Uh N (List.replicate N noUr) es 0 := fun n hn => ⟨noUr, by rw [List.getElem?_replicate, if_pos hn], rfl⟩
theorem uh_step {N : Nat} {us : List Ur} {es : List Ed} {k t : Nat} {u : Ur} (h : Uh N us es k) (ht : hdn es k = t) (htN : t < N) (hu : us[t]? = some u) (A : Option Addr) (c : Nat) : Uh N (us.set t ⟨A, c, u.l ++ [k]⟩) es (k + 1) := fun n hn => by
  have htl := (List.getElem?_eq_some_iff.1 hu).1
  obtain ⟨u', hu', hl⟩ := h n hn
  by_cases hnt : t = n
  · subst hnt
    rw [hu] at hu'
    injection hu' with hu'
    subst hu'
    exact ⟨_, by rw [List.getElem?_set, if_pos rfl, if_pos htl], by show u.l ++ [k] = rowv es t k ++ _; rw [if_pos ht, hl]⟩
  · exact ⟨u', by rw [List.getElem?_set, if_neg hnt]; exact hu', by rw [hl]; show _ = rowv es n k ++ _; rw [if_neg (by omega)]; simp⟩
structure OB (w wr : World) (bh go ua b0 N M ce : Nat) (E : Option Addr) (us : List Ur) : Prop where
  kH : Blk wr bh 24 #[.int .i64 N, .slice E M ce]
  kO : Blk wr go 3 (ints (List.replicate N 1099511627776)).toArray
  kU : Blk wr ua 28 (ursC us).toArray
  rows : URows wr b0 us
  lU : us.length = N
  low : Below w.heap.size w wr
  sz : b0 ≤ wr.heap.size
  lt : bh < b0 ∧ go < b0 ∧ ua < b0 ∧ go ≠ ua ∧ w.heap.size ≤ bh ∧ w.heap.size ≤ go ∧ w.heap.size ≤ ua
section
variable {w wr w1 : World} {bh go ua b0 N M ce : Nat} {E : Option Addr} {us : List Ur}
theorem OB.below (h : OB w wr bh go ua b0 N M ce E us) (hb : Below wr.heap.size wr w1) : OB w w1 bh go ua b0 N M ce E us :=
  ⟨h.kH.below hb h.kH.lt, h.kO.below hb h.kO.lt, h.kU.below hb h.kU.lt, h.rows.below hb, h.lU, h.low.trans (hb.mono h.low.size), Nat.le_trans h.sz hb.size, h.lt⟩
theorem OB.row_at (h : OB w wr bh go ua b0 N M ce E us) {t : Nat} {u : Ur} (hu : us[t]? = some u) : wr.cell? ⟨ua, t, none⟩ = some (.slice u.A u.l.length u.c) := by
  rw [h.kU.cell]
  simp [ursC, hu]
theorem OB.append {t gg cap k : Nat} {u : Ur} (h : OB w wr bh go ua b0 N M ce E us) (hu : us[t]? = some u) (hgrow : wr.grownBy w1 u.sl.ownBlock) (hown : w1.ownsRow b0 3 1 (.slice (some ⟨gg, 0, none⟩) (u.l.length + 1) cap) (u.l.length + 1) (nats u.l ++ [.int .i64 (k : Nat)]))
    (hat : u.sl.ownBlock = some gg ∨ wr.heap.size ≤ gg) :
    OB w (w1.setCell ⟨ua, t, none⟩ (.slice (some ⟨gg, 0, none⟩) (u.l.length + 1) cap)) bh go ua b0 N M ce E (us.set t ⟨some ⟨gg, 0, none⟩, cap, u.l ++ [k]⟩) ∧ Below b0 wr w1 := by
  obtain ⟨n1, n2, n3, n4, n5, n6, n7⟩ := h.lt
  have hR := rows_append h.rows hu hgrow hown hat n3 (.slice (some ⟨gg, 0, none⟩) (u.l.length + 1) cap)
  have hrow : ∀ k, u.sl.ownBlock = some k → b0 ≤ k := fun k hk => own_ge (h.rows.own t u hu) hk
  have hB : Below b0 wr w1 := (Below.refl b0 wr).grown hgrow h.sz hrow
  refine ⟨⟨(h.kH.below hB n1).far (Blk.ne_ h.kH h.kU (by decide)) _, (h.kO.below hB n2).far n4 _, ?_, hR, by rw [List.length_set]; exact h.lU, ?_, ?_, h.lt⟩, hB⟩
  · rw [ursC_set]
    have h3 := (h.kU.below hB n3).set_ t (.slice (some ⟨gg, 0, none⟩) (u.l.length + 1) cap)
    have e : (⟨some ⟨gg, 0, none⟩, cap, u.l ++ [k]⟩ : Ur).sl = .slice (some ⟨gg, 0, none⟩) (u.l.length + 1) cap := by simp [Ur.sl]
    rw [e]
    exact h3
  · exact (h.low.trans (hB.mono (by omega))).setCell (p := ⟨ua, t, none⟩) n7 _
  · have := hB.size
    have := h.sz
    simp only [World.setCell]
    simp
    omega
end
/-- While the queue is worked off. -/
structure OM (wq wr : World) (bq go q : Nat) (F : Nat → Prop) (out : List Int) (L : List Oq.Ent) (nx : Nat) : Prop where
  hQ : Oq.QB wr bq q F L nx nx
  kO : Blk wr go 3 (ints out).toArray
  tch : Touch (fun k => k = go ∨ bq ≤ k) wq wr
  lt : go < bq ∧ bq = wq.heap.size
section
variable {wq wr w1 : World} {bq go q : Nat} {F G : Nat → Prop} {out : List Int} {L L' : List Oq.Ent} {nx nx' : Nat}
theorem OM.nF (h : OM wq wr bq go q F out L nx) : ¬ F go := fun hf => by have := (h.hQ.2 go hf).1; have := h.lt.1; omega
theorem OM.below (h : OM wq wr bq go q F out L nx) (hb : Below wr.heap.size wr w1) : OM wq w1 bq go q F out L nx := ⟨h.hQ.below hb, h.kO.below hb h.kO.lt, h.tch.below hb, h.lt⟩
theorem OM.step (h : OM wq wr bq go q F out L nx) (hq : Oq.QB w1 bq q G L' nx' nx') (hs : Oq.Step bq wr F w1 G) : OM wq w1 bq go q G out L' nx' :=
  ⟨hq, h.kO.touch hs.touch h.nF, h.tch.trans hs.touch (fun k hk => .inl (.inr (h.hQ.2 k hk).1)), h.lt⟩
theorem OM.put (h : OM wq wr bq go q F out L nx) (t : Nat) (x : Int) : OM wq (wr.setCell ⟨go, t, none⟩ (.int .i64 x)) bq go q F (out.set t x) L nx := by
  have hT : Touch (fun k => k = go) wr (wr.setCell ⟨go, t, none⟩ (.int .i64 x)) := (Touch.refl (fun k => k = go) wr).setCell (p := ⟨go, t, none⟩) (.inl rfl) _
  exact ⟨h.hQ.far hT (fun k hk e => h.nF (e ▸ hk)), h.kO.set_ints t x, h.tch.setCell (p := ⟨go, t, none⟩) (.inl (.inl rfl)) _, h.lt⟩
theorem OM.blk (h : OM wq wr bq go q F out L nx) {g : Nat} {t : TypeId} {cs : Array Value} (hg : Blk wq g t cs) (hn : g ≠ go) : Blk wr g t cs :=
  hg.touch h.tch (fun hk => by rcases hk with h1 | h1; exact hn h1; have := hg.lt; have := h.lt.2; omega)
theorem OM.own (h : OM wq wr bq go q F out L nx) {b0 n size : Nat} {e : TypeId} {v : Value} {xs : List Value} (ho : wq.ownsRow b0 e size v n xs) (hb : go < b0) : wr.ownsRow b0 e size v n xs :=
  own_touch ho h.tch fun k hk hx => by
    have h1 := own_ge ho hk
    have h2 := own_lt ho hk
    have := h.lt.2
    rcases hx with h3 | h3 <;> omega
theorem OM.low (h : OM wq wr bq go q F out L nx) {w : World} (hw : Below w.heap.size w wq) (hg : w.heap.size ≤ go) : Below w.heap.size w wr :=
  hw.trans (h.tch.toBelow (fun k hk => by have := h.lt.1; rcases hk with h1 | h1 <;> omega) (by have := hw.size; omega))
theorem OM.pb (h : OM wq wr bq go q F out L nx) {g : Nat} {t : TypeId} {cs : Array Value} (hg : Blk wq g t cs) (hn : g ≠ go) : Oq.PB wr F g t cs :=
  ⟨h.blk hg hn, fun hf => by have := (h.hQ.2 g hf).1; have := hg.lt; have := h.lt.2; omega⟩
end
/-- The sum of the costs. -/
def sumO (out : List Int) : Nat := (out.map Int.toNat).sum
theorem sumO_set : ∀ {out : List Int} {t : Nat} {x y : Int}, out[t]? = some x → sumO (out.set t y) + x.toNat = sumO out + y.toNat
  | [], t, x, y, h => by simp at h
  | a :: l, 0, x, y, h => by
    simp at h
    subst h
    simp [sumO]
    omega
  | a :: l, t + 1, x, y, h => by
    have ih := sumO_set (out := l) (t := t) (x := x) (y := y) (by simpa using h)
    simp [sumO] at *
    omega
def numV : Value → Nat
  | .int _ o => o.toNat
  | _ => 0
def sumB (w : World) (g : Nat) : Nat := match w.heap[g]? with
  | some (.cells cs _ _) => (cs.toList.map numV).sum
  | _ => 0
def measO (w : World) (go q : Nat) : Nat := 2 * sumB w go + qlen w q
theorem measO_eq {wq wr : World} {bq go q : Nat} {F : Nat → Prop} {out : List Int} {L : List Oq.Ent} {nx : Nat} (h : OM wq wr bq go q F out L nx) : measO wr go q = 2 * sumO out + L.length := by
  have h1 : qlen wr q = L.length := by
    obtain ⟨l, f, ⟨A, c, b, K, _⟩, _, hp, _⟩ := h.hQ.1
    have k1 := K.cell 1
    simp at k1
    unfold qlen
    rw [k1, ← hp.length_eq]
  have h2 : sumB wr go = sumO out := by
    have hO := h.kO
    unfold Blk at hO
    unfold sumB sumO
    rw [hO]
    simp only [ints, List.map_map]
    rfl
  unfold measO
  omega
/-- The hyperedges of these numbers were seen. -/
def Pr (es : List Ed) (I : Nat → Int) (out : List Int) (c : Int) (l : List Nat) : Prop := ∀ i ∈ l, ∀ e, es[i]? = some e → ∀ (k : Nat) (t : Int), e.ts[k]? = some t → gi out t.toNat ≤ rl I c e k
/-- The first k tails were seen. -/
def PrK (e : Ed) (I : Nat → Int) (out : List Int) (c : Int) (n : Nat) : Prop := ∀ k, k < n → ∀ t, e.ts[k]? = some t → gi out t.toNat ≤ rl I c e k
theorem gi_lower {out : List Int} {t : Nat} {r : Int} (ht : t < out.length) (h : r < gi out t) (i : Nat) : gi (out.set t r) i ≤ gi out i := by
  rw [gi_set ht]
  by_cases hi : t = i
  · subst hi; rw [if_pos rfl]; omega
  · rw [if_neg hi]; exact Int.le_refl _
theorem Pr.mono {es : List Ed} {I : Nat → Int} {out out' : List Int} {c : Int} {l : List Nat} (h : Pr es I out c l) (ho : ∀ i, gi out' i ≤ gi out i) : Pr es I out' c l := fun i hi e he k t hk => Int.le_trans (ho _) (h i hi e he k t hk)
theorem PrK.mono {e : Ed} {I : Nat → Int} {out out' : List Int} {c : Int} {n : Nat} (h : PrK e I out c n) (ho : ∀ i, gi out' i ≤ gi out i) : PrK e I out' c n := fun k hk t ht => Int.le_trans (ho _) (h k hk t ht)
theorem PrK.snoc {e : Ed} {I : Nat → Int} {out : List Int} {c : Int} {n : Nat} {t : Int} (h : PrK e I out c n) (ht : e.ts[n]? = some t) (hle : gi out t.toNat ≤ rl I c e n) : PrK e I out c (n + 1) := fun k hk t' ht' => by
  by_cases hkn : k = n
  · subst hkn
    rw [ht] at ht'
    injection ht' with ht'
    subst ht'
    exact hle
  · exact h k (by omega) t' ht'
theorem Pr.snoc {es : List Ed} {I : Nat → Int} {out : List Int} {c : Int} {l : List Nat} {i : Nat} {e : Ed} (h : Pr es I out c l) (he : es[i]? = some e) (hk : PrK e I out c e.ts.length) : Pr es I out c (l ++ [i]) := fun i' hi' e' he' k t ht => by
  rcases List.mem_append.1 hi' with h1 | h1
  · exact h i' h1 e' he' k t ht
  · simp at h1
    subst h1
    rw [he] at he'
    injection he' with he'
    subst he'
    exact hk k (List.getElem?_eq_some_iff.1 ht).1 t ht
theorem Pr.rx {es : List Ed} {I : Nat → Int} {out : List Int} {c : Int} {v : Nat} (h : Pr es I out c (rowv es v es.length)) (hc : gi out v = c) : Rx es I out v := fun e he hv k t ht => by
  obtain ⟨i, hi⟩ := List.getElem?_of_mem he
  rw [hc]
  exact h i (mem_rowv (List.getElem?_eq_some_iff.1 hi).1 (by simp [hdn, hi, hv])) e hi k t ht
end Go.Proofs.Ytbalhkbpmahkgaa
