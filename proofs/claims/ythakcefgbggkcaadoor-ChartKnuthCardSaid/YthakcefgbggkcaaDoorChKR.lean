/- The reference's Solve returns the least values and the first hyperedges that attain them. -/
import Derived.Test.YthakcefgbggkcaaDoorCMi
import Derived.Deep.DeepCutAuto
namespace Go.Proofs.YthakcefgbggkcaaDoor
open Go.RowKit

def NrmF (U : Nat → Vl) : Prop := ∀ i, Nrm (U i)
def PreFix (es : List Ed) (U : Nat → Vl) : Prop := ∀ e ∈ es, vle (U e.hd.toNat) (ev U e)
/-- The least values: the greatest ones that no hyperedge undercuts. -/
structure Sol (es : List Ed) (V : Nat → Vl) : Prop where
  nrm : NrmF V
  pre : PreFix es V
  top : ∀ U, NrmF U → PreFix es U → ∀ i, vle (U i) (V i)
theorem Sol.uniq {es : List Ed} {V V' : Nat → Vl} (h : Sol es V) (h' : Sol es V') : V = V' := funext fun i => (h'.top V h.nrm h.pre i).antisymm (h.top V' h'.nrm h'.pre i)
theorem tlv_ord {V : Nat → Vl} (h : NrmF V) (ts : List Int) : ∀ v ∈ tlv V ts, Ordy v := fun v hv => by
  obtain ⟨t, _, rfl⟩ := List.mem_map.1 hv
  exact (h _).1
theorem ev_mono {U V : Nat → Vl} {e : Ed} (hU : NrmF U) (hV : NrmF V) (h0 : 0 ≤ e.cost) (h : ∀ t ∈ e.ts, vle (U t.toNat) (V t.toNat)) : vle (ev U e) (ev V e) :=
  comb_mono h0 (LeL.map h) (tlv_ord hU _) (tlv_ord hV _)
theorem ev_nrm {V : Nat → Vl} {e : Ed} (hV : NrmF V) (h0 : 0 ≤ e.cost) : Nrm (ev V e) := comb_nrm h0 (tlv_ord hV _)
theorem ev_sup {V : Nat → Vl} {e : Ed} (hV : NrmF V) (h0 : 0 ≤ e.cost) {t : Int} (ht : t ∈ e.ts) : vle (V t.toNat) (ev V e) :=
  comb_sup h0 (tlv_ord hV _) (List.mem_map.2 ⟨t, ht, rfl⟩) (hV _)
theorem ev_fin {V : Nat → Vl} {e : Ed} (hV : NrmF V) (h0 : 0 ≤ e.cost) (h : (ev V e).c < 1099511627776) {t : Int} (ht : t ∈ e.ts) : (V t.toNat).c < 1099511627776 :=
  comb_finite h0 (tlv_ord hV _) (List.mem_map.2 ⟨t, ht, rfl⟩) h
theorem ev_congr {U V : Nat → Vl} {e : Ed} (h : ∀ t ∈ e.ts, U t.toNat = V t.toNat) : ev U e = ev V e := by
  unfold ev tlv
  congr 1
  exact List.map_congr_left h
theorem gv_rep (N i : Nat) : gv (List.replicate N vtop) i = vtop := by
  unfold gv
  rw [List.getElem?_replicate]
  split <;> rfl
/-- Whether a hyperedge attains the value of its head. -/
def att (V : Nat → Vl) (e : Ed) : Bool := decide ((V e.hd.toNat).c < 1099511627776) && (decide ((ev V e).c = (V e.hd.toNat).c) && decide ((ev V e).s = (V e.hd.toNat).s))
theorem att_iff {V : Nat → Vl} {e : Ed} : att V e = true ↔ (V e.hd.toNat).c < 1099511627776 ∧ ev V e = V e.hd.toNat := by
  simp only [att, Bool.and_eq_true, decide_eq_true_eq]
  constructor
  · rintro ⟨h1, h2, h3⟩; exact ⟨h1, Vl.ext' h2 h3⟩
  · rintro ⟨h1, h2⟩; exact ⟨h1, by rw [h2], by rw [h2]⟩
def isC (V : Nat → Vl) (i : Nat) (e : Ed) : Bool := decide (e.hd.toNat = i) && att V e
/-- The first hyperedge that attains the value of node i, or -1. -/
def cho (V : Nat → Vl) (es : List Ed) (i : Nat) : Int := match es.findIdx? (isC V i) with
  | some k => (k : Int)
  | none => -1
theorem cho_nil (V : Nat → Vl) (i : Nat) : cho V [] i = -1 := rfl
theorem cho_some {V : Nat → Vl} {es : List Ed} {i k : Nat} (h : es.findIdx? (isC V i) = some k) : cho V es i = (k : Int) := by unfold cho; rw [h]
theorem cho_none {V : Nat → Vl} {es : List Ed} {i : Nat} (h : es.findIdx? (isC V i) = none) : cho V es i = -1 := by unfold cho; rw [h]
theorem cho_bd (V : Nat → Vl) (es : List Ed) (i : Nat) : -1 ≤ cho V es i ∧ cho V es i < es.length := by
  unfold cho
  split
  · rename_i k h
    have := (List.findIdx?_eq_some_iff_getElem.1 h).1
    omega
  · omega
/-- The chosen hyperedges of all nodes. -/
def chs (V : Nat → Vl) (es : List Ed) (N : Nat) : List Int := (List.range N).map (cho V es)
theorem chs_len (V : Nat → Vl) (es : List Ed) (N : Nat) : (chs V es N).length = N := by simp [chs]
theorem chs_at {V : Nat → Vl} {es : List Ed} {N i : Nat} (h : i < N) : (chs V es N)[i]? = some (cho V es i) := by simp [chs, h]
theorem cho_pos {V : Nat → Vl} {es : List Ed} {i : Nat} (h : 0 ≤ cho V es i) : ∃ (k : Nat) (e : Ed), cho V es i = (k : Int) ∧ es[k]? = some e ∧ e.hd.toNat = i ∧ att V e = true ∧ ∀ (j : Nat) (e' : Ed), j < k → es[j]? = some e' → ¬ (e'.hd.toNat = i ∧ att V e' = true) := by
  cases hf : es.findIdx? (isC V i) with
  | none => rw [cho_none hf] at h; omega
  | some k =>
    obtain ⟨hk, h1, h2⟩ := List.findIdx?_eq_some_iff_getElem.1 hf
    refine ⟨k, es[k], cho_some hf, List.getElem?_eq_getElem hk, ?_, ?_, fun j e' hj he' hc => ?_⟩
    · simp only [isC, Bool.and_eq_true, decide_eq_true_eq] at h1; exact h1.1
    · simp only [isC, Bool.and_eq_true, decide_eq_true_eq] at h1; exact h1.2
    · have := h2 j hj
      obtain ⟨hj', hee⟩ := List.getElem?_eq_some_iff.1 he'
      rw [hee] at this
      exact this (by simp only [isC, Bool.and_eq_true, decide_eq_true_eq]; exact hc)
theorem cho_neg {V : Nat → Vl} {es : List Ed} {i : Nat} (h : cho V es i < 0) : ∀ e ∈ es, ¬ (e.hd.toNat = i ∧ att V e = true) := by
  cases hf : es.findIdx? (isC V i) with
  | some k => rw [cho_some hf] at h; omega
  | none =>
    intro e he hc
    have := List.findIdx?_eq_none_iff.1 hf e he
    simp only [isC, hc.1, hc.2] at this
    simp at this
theorem cho_le {V : Nat → Vl} {es : List Ed} {i k : Nat} {e : Ed} (he : es[k]? = some e) (h1 : e.hd.toNat = i) (h2 : att V e = true) : 0 ≤ cho V es i ∧ cho V es i ≤ k := by
  have h0 : 0 ≤ cho V es i := by
    by_cases hn : cho V es i < 0
    · exact absurd ⟨h1, h2⟩ (cho_neg hn e (List.mem_of_getElem? he))
    · omega
  refine ⟨h0, ?_⟩
  obtain ⟨k', e', hk', _, _, _, hlt⟩ := cho_pos h0
  rw [hk']
  by_cases hl : k < k'
  · exact absurd ⟨h1, h2⟩ (hlt k e hl he)
  · omega
theorem OkN {N : Nat} {es : List Ed} (h : ∀ e ∈ es, e.Ok N) {e : Ed} (he : e ∈ es) : 0 ≤ e.cost := (h e he).cost.1
/-- The next greater value. -/
def vsucc (v : Vl) : Vl := if v.s < 1099511627776 ∧ v.c < 1099511627776 then ⟨v.c, v.s + 1⟩ else ⟨v.c + 1, 0⟩
theorem vsucc_nrm {v : Vl} (h : Nrm v) (hc : v.c < 1099511627776) : Nrm (vsucc v) := by
  obtain ⟨⟨h1, h2, h3, h4⟩, h5⟩ := h
  unfold vsucc
  split
  · exact ⟨⟨by simp; omega, by simp; omega, by simp; omega, by simp; omega⟩, fun e => by simp at e; omega⟩
  · exact ⟨⟨by simp; omega, by simp; omega, by simp, by simp⟩, fun _ => rfl⟩
theorem vsucc_le {v x : Vl} (hx : Nrm x) (hc : v.c < 1099511627776) (h : vle v x) (hne : x ≠ v) : vle (vsucc v) x := by
  have hne' : ¬ (x.c = v.c ∧ x.s = v.s) := fun e => hne (Vl.ext' e.1 e.2)
  obtain ⟨⟨h1, h2, h3, h4⟩, h5⟩ := hx
  unfold vle at h
  unfold vsucc vle
  split <;> simp only <;> omega
theorem vsucc_ge (v : Vl) : vle v (vsucc v) := by
  by_cases h : v.s < 1099511627776 ∧ v.c < 1099511627776
  · have e : vsucc v = ⟨v.c, v.s + 1⟩ := if_pos h
    rw [e]
    exact .inr ⟨rfl, by show v.s ≤ v.s + 1; omega⟩
  · have e : vsucc v = ⟨v.c + 1, 0⟩ := if_neg h
    rw [e]
    exact .inl (by show v.c < v.c + 1; omega)
theorem vsucc_gt (v : Vl) : ¬ vle (vsucc v) v := by
  unfold vsucc vle
  split <;> simp only <;> omega
/-- A finite value is attained. -/
theorem Sol.attained {es : List Ed} {V : Nat → Vl} {N : Nat} (h : Sol es V) (hes : ∀ e ∈ es, e.Ok N) {i : Nat} (hc : (V i).c < 1099511627776) : ∃ e ∈ es, e.hd.toNat = i ∧ att V e = true := by
  apply Classical.byContradiction
  intro hno
  have hgt : ∀ e ∈ es, e.hd.toNat = i → ev V e ≠ V i := fun e he h1 h2 => hno ⟨e, he, h1, att_iff.2 ⟨by rw [h1]; exact hc, by rw [h1]; exact h2⟩⟩
  have hge : ∀ j, vle (V j) (if j = i then vsucc (V i) else V j) := fun j => by
    split
    · rename_i e
      subst e
      exact vsucc_ge _
    · exact vle.refl _
  have hU : NrmF (fun j => if j = i then vsucc (V i) else V j) := fun j => by
    simp only
    split
    · exact vsucc_nrm (h.nrm i) hc
    · exact h.nrm j
  have hP : PreFix es (fun j => if j = i then vsucc (V i) else V j) := fun e he => by
    have hm : vle (ev V e) (ev (fun j => if j = i then vsucc (V i) else V j) e) := ev_mono h.nrm hU (hes e he).cost.1 fun t _ => hge _
    refine vle.trans ?_ hm
    simp only
    split
    · rename_i e1
      have h0 := h.pre e he
      rw [e1] at h0
      exact vsucc_le (ev_nrm h.nrm (hes e he).cost.1) hc h0 (hgt e he e1)
    · exact h.pre e he
  have := h.top _ hU hP i
  simp only at this
  rw [if_pos trivial] at this
  exact vsucc_gt _ this
/-- A number for the order of values. -/
def vrk (v : Vl) : Nat := (v.c * 2199023255552 + v.s).toNat
theorem vrk_lt {a b : Vl} (ha : Ordy a) (hb : Ordy b) (h : a.c < b.c ∨ (a.c = b.c ∧ a.s < b.s)) : vrk a < vrk b := by
  unfold Ordy at *
  unfold vrk
  omega
/-- Nodes that are not derivable have no finite value. -/
theorem Sol.outside {es : List Ed} {V : Nat → Vl} {N : Nat} (h : Sol es V) (hes : ∀ e ∈ es, e.Ok N) (D : Nat → Prop) (hD : ∀ e ∈ es, (∀ t ∈ e.ts, D t.toNat) → D e.hd.toNat) {i : Nat} (hi : ¬ D i) : V i = vtop := by
  classical
  have hge : ∀ j, vle (V j) (if D j then V j else vtop) := fun j => by
    split
    · exact vle.refl _
    · exact (h.nrm j).le_top
  have hU : NrmF (fun j => if D j then V j else vtop) := fun j => by
    simp only
    split
    · exact h.nrm j
    · exact Nrm.top
  have hP : PreFix es (fun j => if D j then V j else vtop) := fun e he => by
    have hm : vle (ev V e) (ev (fun j => if D j then V j else vtop) e) := ev_mono h.nrm hU (hes e he).cost.1 fun t _ => hge _
    by_cases hd : D e.hd.toNat
    · simp only [if_pos hd]
      exact (h.pre e he).trans hm
    · simp only [if_neg hd]
      have hx : ∃ t ∈ e.ts, ¬ D t.toNat := by
        apply Classical.byContradiction
        intro hno
        exact hd (hD e he fun t ht => Classical.byContradiction fun hn => hno ⟨t, ht, hn⟩)
      obtain ⟨t, ht, hn⟩ := hx
      have h1 : ¬ (ev (fun j => if D j then V j else vtop) e).c < 1099511627776 := fun hlt => by
        have := ev_fin hU (hes e he).cost.1 hlt ht
        simp only [if_neg hn] at this
        exact absurd this (by decide)
      rw [(ev_nrm (e := e) hU (hes e he).cost.1).eq_top (by omega)]
      exact vle.refl _
  have := h.top _ hU hP i
  simp only [if_neg hi] at this
  exact ((h.nrm i).le_top).antisymm this
/-- Beyond the nodes nothing is finite. -/
theorem Sol.beyond {es : List Ed} {V : Nat → Vl} {N : Nat} (h : Sol es V) (hes : ∀ e ∈ es, e.Ok N) {i : Nat} (hi : N ≤ i) : V i = vtop :=
  h.outside hes (fun j => j < N) (fun e he _ => by have := (hes e he).hd; omega) (by omega)
/-- What Solve returns: the least values and the first hyperedges that attain them. -/
def SolvePost (w : World) (N : Nat) (es : List Ed) (e : Ending) (w' : World) : Prop := ∃ (va ea : Nat) (V : List Vl), e = .returned (.tuple #[.slice (some ⟨va, 0, none⟩) N N, .slice (some ⟨ea, 0, none⟩) N N]) ∧ V.length = N ∧ Blk w' va 45 (vls V).toArray ∧ Blk w' ea 3 (ints (chs (gv V) es N)).toArray ∧ Sol es (gv V) ∧ w.heap.size ≤ va ∧ w.heap.size ≤ ea ∧ Below w.heap.size w w'
end Go.Proofs.YthakcefgbggkcaaDoor

namespace Go.Proofs.YthakcefgbggkcaaDoor
open Go.RowKit

/-- What a function that returns a list of values in new memory leaves. -/
def RetVls (l : List Vl) (w : World) (e : Ending) (w' : World) : Prop := ∃ A c, e = .returned (.slice A l.length c) ∧ Reads w' w'.heap.size 2 A l.length (vls l) ∧ Below w.heap.size w w'
theorem tlv_snoc {V : Nat → Vl} {ts : List Int} {i : Nat} {t : Int} (h : ts[i]? = some t) : tlv V (ts.take (i + 1)) = tlv V (ts.take i) ++ [V t.toNat] := by
  rw [List.take_add_one, h]
  simp [tlv]
set_option maxHeartbeats 1000000 in
theorem rtails_any (w : World) (B nv cv : Nat) (Av : Option Addr) (V : List Vl) (hd cost l0 l1 : Int) (A : Option Addr) (c : Nat) (ts : List Int) (hV : Reads w B 2 Av nv (vls V)) (hR : Reads w B 1 A ts.length (ints ts)) (hB : B ≤ w.heap.size)
    (hts : ∀ t ∈ ts, 0 ≤ t ∧ t < nv) (hfew : ts.length ≤ 1000) :
    Calls Tryd.prog 38 #[.agg #[.int .i64 hd, .slice A ts.length c, .int .i64 cost, .int .i64 l0, .int .i64 l1], .slice Av nv cv] w (RetVls (tlv (gv V) ts) w) := by
  obtain ⟨i0, hi0, hz0, hz1, hz2⟩ := info_parts infoVl3
  have HV := Lib.hid (hV.more hB)
  have HR := Lib.hid (hR.more hB)
  have HT := Lib.hid hts
  obtain ⟨n, hn⟩ : ∃ n, ts.length = n := ⟨_, rfl⟩
  rw [hn] at HR hfew ⊢
  have HN := Lib.hid hn
  clear hV hR hts hn
  go_enter Tryd.func38, Tryd.ntmps38
  go_wp2_with fail
  have hb0 : Below w.heap.size w (w.alloc (.cells #[.int .i64 hd, .slice A n c, .int .i64 cost, .int .i64 l0, .int .i64 l1] 50)) := (Below.refl _ _).alloc (Nat.le_refl _) _
  go_loopw [5, 6] (fun v a wr => ∃ i : Nat, i ≤ n ∧ a = .int .i64 i ∧ Hid (wr.ownsRow (w.heap.size + 1) 45 2 v (tlv (gv V) (ts.take i)).length (vls (tlv (gv V) (ts.take i)))) ∧
      Hid (Blk wr w.heap.size 50 #[.int .i64 hd, .slice A n c, .int .i64 cost, .int .i64 l0, .int .i64 l1]) ∧ Hid (Below (w.heap.size + 1) (w.alloc (.cells #[.int .i64 hd, .slice A n c, .int .i64 cost, .int .i64 l0, .int .i64 l1] 50)) wr)) (fun _ a _ => n - (intOf a).toNat)
  case atStart => exact ⟨0, Nat.zero_le _, rfl, by simp [tlv, vls]; exact World.ownsRow_nil _ _ _ _, Blk.new' _ _ _ rfl, Below.refl _ _⟩
  case round =>
    obtain ⟨i, hi, rfl, HO, HK, HB⟩ := hrel
    have b1 := HK.out.cell 1
    simp at b1
    have hsz := HB.out.size
    simp only [World.size_alloc] at hsz
    have HBW : Hid (Below w.heap.size w wr) := hb0.trans (HB.out.mono (by omega))
    by_cases hlt : i < n
    case pos =>
      have hltD : decide (i < n) = true := by simp [hlt]
      obtain ⟨b, off, hA, hb, p0⟩ := (HR.out.below HBW.out).int_at hlt
      obtain ⟨t, hti⟩ : ∃ t, ts[i]? = some t := ⟨_, List.getElem?_eq_getElem (by have := HN.out; omega)⟩
      rw [hti] at p0
      simp only [Option.getD_some] at p0
      obtain ⟨t0, t1⟩ := HT.out t (List.mem_of_getElem? hti)
      obtain ⟨j, rfl⟩ := Int.eq_ofNat_of_zero_le t0
      have hj : j < nv := by omega
      obtain ⟨bv, ov, v, hAv, hbv, hvj, q0, q1⟩ := (HV.out.below HBW.out).vl_at hj
      have hgj : gv V j = v := by simp [gv, hvj]
      have hsn := tlv_snoc (V := gv V) hti
      simp only [Int.toNat_natCast, hgj] at hsn
      have hlen : (tlv (gv V) (ts.take i)).length ≤ i := by simp [tlv]; omega
      obtain ⟨acc, hacc⟩ : ∃ acc, tlv (gv V) (ts.take i) = acc := ⟨_, rfl⟩
      rw [hacc] at HO hsn hlen
      have HSN := Lib.hid hsn
      subst hA hAv
      clear hti hvj hgj hsn hacc t0 t1
      go_wp2_with (at_builtin; go_must (refine wpList_append_own _ rfl _ _ 40 rfl (w.heap.size + 1) 45 i0 (.agg #[.int .i64 0, .int .i64 0]) 2 16 Tryd.underlying40 hi0 hz0 hz1 hz2 rfl (by decide) _ acc.length (vls acc) rfl ?hown ⟨wr.heap.size, 0, none⟩ 1 1 v.cells rfl rfl ?c1 ?c2 ?c3 ?c4 ?c5 ?_))
      case hown => exact HO.out.alloc _
      case c1 =>
        intro j u hj
        rw [Addr.add_lit, (Blk.new' _ _ _ (by simp)).cell]
        simpa [Vl.cells] using hj
      case c2 =>
        intro u hu
        simp [Vl.cells] at hu
        rcases hu with rfl | rfl <;> rfl
      case c3 => unfold maxLen; omega
      case c4 => omega
      case c5 => simp; omega
      · intro v' w2 hown' hgrow _
        have hlt0 := HO.out.lt
        have B2 : Blk w2 w.heap.size 50 #[.int .i64 hd, .slice (some ⟨b, off, none⟩) n c, .int .i64 cost, .int .i64 l0, .int .i64 l1] := (HK.out.alloc _).grown hgrow (fun e => by have := hlt0 _ e.symm; omega)
        have R := vls_push (t := v) (HB.out.alloc (by omega) _) (by simp) hown' hgrow (HO.out.alloc _)
        have HR1 := Lib.hid R
        clear hown' hgrow HO R hlt0
        go_wp2_with fail
        go_roundw
        case rel => exact ⟨i + 1, by omega, by go_num, by rw [HSN.out]; exact HR1.out.1, B2, HR1.out.2⟩
        case measure => simp [intOf]; omega
    case neg =>
      have hltD : decide (i < n) = false := by simp [hlt]
      obtain rfl : i = n := by omega
      have hte : ts.take i = ts := by rw [← HN.out]; exact List.take_length
      rw [hte] at HO
      have hown := HO.out
      obtain ⟨A', c', rfl, _, _⟩ := own_form hown
      clear hte hown
      go_wp2_with fail
      go_ret
      exact ⟨A', c', rfl, Reads.of_own HO.out, HBW.out⟩

def rks (V : List Vl) : Nat := (V.map vrk).sum
def sumc : List Value → Nat
  | .int _ c :: .int _ s :: l => vrk ⟨c, s⟩ + sumc l
  | _ => 0
theorem sumc_vls : ∀ V : List Vl, sumc (vls V) = rks V
  | [] => rfl
  | v :: V => by
    have ih := sumc_vls V
    have e : vls (v :: V) = .int .i64 v.c :: .int .i64 v.s :: vls V := rfl
    rw [e]
    simp only [sumc, ih, rks, List.map_cons, List.sum_cons]
/-- The measure, read from memory. -/
def vmeas (w : World) (g : Nat) : Nat := match w.heap[g]? with
  | some (.cells cs _ _) => sumc cs.toList
  | _ => 0
theorem vmeas_eq {w : World} {g : Nat} {t : TypeId} {V : List Vl} (h : Blk w g t (vls V).toArray) : vmeas w g = rks V := by
  unfold Blk at h
  unfold vmeas
  rw [h]
  exact sumc_vls V
theorem rks_set : ∀ {V : List Vl} {n : Nat} {v u : Vl}, V[n]? = some v → vrk u < vrk v → rks (V.set n u) < rks V
  | [], _, _, _, h, _ => by simp at h
  | a :: V, 0, v, u, h, hl => by
    simp at h
    subst h
    simp only [rks, List.set_cons_zero, List.map_cons, List.sum_cons]
    omega
  | a :: V, n + 1, v, u, h, hl => by
    simp at h
    have ih := rks_set h hl
    simp only [rks, List.set_cons_succ, List.map_cons, List.sum_cons] at *
    omega
/-- What the iteration keeps. -/
structure RInv (es : List Ed) (V : List Vl) : Prop where
  nV : NrmF (gv V)
  low : ∀ U, NrmF U → PreFix es U → ∀ i, vle (U i) (gv V i)
theorem RInv.start (es : List Ed) (N : Nat) : RInv es (List.replicate N vtop) := ⟨fun i => by rw [gv_rep]; exact Nrm.top, fun U hU _ i => by rw [gv_rep]; exact (hU i).le_top⟩
theorem RInv.vord {es : List Ed} {V : List Vl} (h : RInv es V) : ∀ v ∈ V, Ordy v := fun v hv => by
  obtain ⟨i, hi⟩ := List.getElem?_of_mem hv
  have := (h.nV i).1
  unfold gv at this
  rw [hi] at this
  exact this
theorem RInv.put {es : List Ed} {V : List Vl} (h : RInv es V) {e : Ed} {n : Nat} (he : e ∈ es) (h0 : 0 ≤ e.cost) (hn : e.hd.toNat = n) (hl : n < V.length) : RInv es (V.set n (ev (gv V) e)) := by
  refine ⟨fun i => ?_, fun U hU hP i => ?_⟩
  · rw [gv_set hl]
    split
    · exact ev_nrm h.nV h0
    · exact h.nV i
  · rw [gv_set hl]
    split
    · rename_i e1
      subst e1
      have := hP e he
      rw [hn] at this
      exact this.trans (ev_mono hU h.nV h0 fun t _ => h.low U hU hP _)
    · exact h.low U hU hP i
theorem RInv.sol {es : List Ed} {V : List Vl} (h : RInv es V) (hp : PreFix es (gv V)) : Sol es (gv V) := ⟨h.nV, hp, h.low⟩
/-- The first k hyperedges undercut nothing. -/
def PreK (es : List Ed) (V : List Vl) (k : Nat) : Prop := ∀ j e, j < k → es[j]? = some e → vle (gv V e.hd.toNat) (ev (gv V) e)
theorem PreK.next {es : List Ed} {V : List Vl} {k : Nat} {e : Ed} (h : PreK es V k) (he : es[k]? = some e) (hv : vle (gv V e.hd.toNat) (ev (gv V) e)) : PreK es V (k + 1) := fun j e' hj he' => by
  by_cases hjk : j = k
  · subst hjk
    rw [he] at he'
    injection he' with he'
    subst he'
    exact hv
  · exact h j e' (by omega) he'
theorem PreK.all {es : List Ed} {V : List Vl} (h : PreK es V es.length) : PreFix es (gv V) := fun e he => by
  obtain ⟨k, hk⟩ := List.getElem?_of_mem he
  exact h k e (List.getElem?_eq_some_iff.1 hk).1 hk
/-- What a pass keeps: whether something has changed. -/
def PassS (b : Bool) (es : List Ed) (V0 V : List Vl) (k : Nat) : Prop := (b = false → V = V0 ∧ PreK es V k) ∧ (b = true → rks V < rks V0)
def PassE (b : Bool) (es : List Ed) (V : List Vl) : Prop := b = false → PreK es V es.length
theorem vlt_nle {a b : Vl} : vlt a.c a.s b.c b.s = true ↔ ¬ vle b a := by
  unfold vlt vle
  simp only [Bool.or_eq_true, decide_eq_true_eq, Bool.and_eq_true, beq_iff_eq]
  omega
theorem vlt_rk {a b : Vl} (ha : Ordy a) (hb : Ordy b) (h : vlt a.c a.s b.c b.s = true) : vrk a < vrk b := by
  refine vrk_lt ha hb ?_
  unfold vlt at h
  simp only [Bool.or_eq_true, decide_eq_true_eq, Bool.and_eq_true, beq_iff_eq] at h
  exact h
/-- The chosen hyperedges from k on, as the last loop finds them. -/
def choB (V : Nat → Vl) (es : List Ed) (k : Nat) (i : Nat) : Int := match (es.drop k).findIdx? (isC V i) with
  | some j => ((k + j : Nat) : Int)
  | none => -1
theorem choB_zero (V : Nat → Vl) (es : List Ed) (i : Nat) : choB V es 0 i = cho V es i := by
  unfold choB cho
  rw [List.drop_zero]
  cases es.findIdx? (isC V i) with
  | none => rfl
  | some j => simp
theorem choB_end (V : Nat → Vl) (es : List Ed) (i : Nat) : choB V es es.length i = -1 := by
  unfold choB
  simp
theorem choB_step {V : Nat → Vl} {es : List Ed} {k : Nat} {e : Ed} (h : es[k]? = some e) (i : Nat) : choB V es k i = if isC V i e = true then (k : Int) else choB V es (k + 1) i := by
  obtain ⟨hk, he⟩ := List.getElem?_eq_some_iff.1 h
  unfold choB
  rw [List.drop_eq_getElem_cons hk, he, List.findIdx?_cons]
  by_cases hc : isC V i e = true
  · simp [hc]
  · rw [if_neg hc, if_neg hc]
    cases (es.drop (k + 1)).findIdx? (isC V i) with
    | none => rfl
    | some j => simp; omega
def chB (V : Nat → Vl) (es : List Ed) (k N : Nat) : List Int := (List.range N).map (choB V es k)
theorem chB_len (V : Nat → Vl) (es : List Ed) (k N : Nat) : (chB V es k N).length = N := by simp [chB]
theorem chB_at {V : Nat → Vl} {es : List Ed} {k N i : Nat} (h : i < N) : (chB V es k N)[i]? = some (choB V es k i) := by simp [chB, h]
theorem chB_zero (V : Nat → Vl) (es : List Ed) (N : Nat) : chB V es 0 N = chs V es N := by
  unfold chB chs
  exact List.map_congr_left fun i _ => choB_zero V es i
theorem chB_end (V : Nat → Vl) (es : List Ed) (N : Nat) : chB V es es.length N = List.replicate N (-1) := by
  apply List.ext_getElem?
  intro i
  rw [List.getElem?_replicate]
  by_cases h : i < N
  · rw [chB_at h, if_pos h, choB_end]
  · rw [if_neg h, List.getElem?_eq_none (by rw [chB_len]; omega)]
theorem chB_same {V : Nat → Vl} {es : List Ed} {k N : Nat} {e : Ed} (h : es[k]? = some e) (hno : att V e = false) : chB V es k N = chB V es (k + 1) N := by
  unfold chB
  apply List.map_congr_left
  intro i _
  rw [choB_step h, if_neg]
  simp [isC, hno]
theorem chB_set {V : Nat → Vl} {es : List Ed} {N k n : Nat} {e : Ed} (h : es[k]? = some e) (hn : e.hd.toNat = n) (h2 : att V e = true) : (chB V es (k + 1) N).set n (k : Int) = chB V es k N := by
  apply List.ext_getElem?
  intro i
  rw [List.getElem?_set, chB_len]
  by_cases hi : i < N
  · rw [chB_at hi, chB_at hi, choB_step h]
    by_cases e1 : n = i
    · subst e1
      rw [if_pos rfl, if_pos hi, if_pos (by simp only [isC, hn, h2]; simp)]
    · rw [if_neg e1, if_neg]
      intro h4
      simp only [isC, Bool.and_eq_true, decide_eq_true_eq] at h4
      exact e1 (hn.symm.trans h4.1)
  · by_cases e1 : n = i
    · subst e1
      rw [if_pos rfl, if_neg hi, List.getElem?_eq_none (by rw [chB_len]; omega)]
    · rw [if_neg e1, List.getElem?_eq_none (by rw [chB_len]; omega), List.getElem?_eq_none (by rw [chB_len]; omega)]
set_option maxRecDepth 100000 in
set_option maxHeartbeats 4000000 in
theorem rsolve_any (w : World) (N ce B : Nat) (E : Option Addr) (es : List Ed) (hE : HG w B E es.length es) (hB : B ≤ w.heap.size) (hes : ∀ e ∈ es, e.Ok N) (hN : N ≤ 1000) (hM : es.length ≤ 1000000) :
    Calls Tryd.prog 17 #[.agg #[.int .i64 N, .slice E es.length ce]] w (SolvePost w N es) := by
  obtain ⟨M, hMM⟩ : ∃ M, es.length = M := ⟨_, rfl⟩
  rw [hMM] at hM ⊢
  have HE := Lib.hid (hE.more hB)
  rw [hMM] at HE
  have HES := Lib.hid hes
  have HMM := Lib.hid hMM
  clear hE hes hMM
  have hv := run_make_vls N (by omega)
  have hoN := mk_ints N (by omega)
  have hEQ := run_eql_vl
  have HEQ := Lib.hid hEQ
  clear hEQ
  go_enter Tryd.func17, Tryd.ntmps17
  go_wp2_with fail
  obtain ⟨w1, hw1⟩ : ∃ w1, ((w.alloc (.cells #[.int .i64 N, .slice E M ce] 38)).alloc (.cells (vls (List.replicate N ⟨0, 0⟩)).toArray 45)).alloc (.cells (ints (List.replicate N 0)).toArray 3) = w1 := ⟨_, rfl⟩
  rw [hw1]
  obtain ⟨bh, hbh⟩ : ∃ bh, w.heap.size = bh := ⟨_, rfl⟩
  obtain ⟨va, hva⟩ : ∃ va, bh + 1 = va := ⟨_, rfl⟩
  obtain ⟨ea, hea⟩ : ∃ ea, va + 1 = ea := ⟨_, rfl⟩
  have HKH1 : Hid (Blk w1 bh 38 #[.int .i64 N, .slice E M ce]) := by rw [← hw1]; exact ((Blk.new' w _ _ hbh).alloc _).alloc _
  have HKV1 : Hid (Blk w1 va 45 (vls (vini N 0)).toArray) := by
    have : vini N 0 = List.replicate N ⟨0, 0⟩ := by simp [vini]
    rw [← hw1, this]; exact (Blk.new' _ _ _ (by simp; omega)).alloc _
  have HKA1 : Hid (Blk w1 ea 3 (ints (eini N 0)).toArray) := by
    have : eini N 0 = List.replicate N 0 := by simp [eini]
    rw [← hw1, this]; exact Blk.new' _ _ _ (by simp; omega)
  have HB1 : Hid (Below w.heap.size w w1) := by rw [← hw1]; exact (((Below.refl _ _).alloc (Nat.le_refl _) _).alloc (by simp) _).alloc (by simp; omega) _
  have HLT : Hid (w.heap.size ≤ bh ∧ bh < va ∧ va < ea) := ⟨by omega, by omega, by omega⟩
  try rw [hbh]
  try rw [hva]
  try rw [hea]
  clear hw1 hbh hva hea hv hoN
  go_loopw [6] (fun x wr => ∃ i : Nat, i ≤ N ∧ x = .int .i64 i ∧ Hid (Blk wr bh 38 #[.int .i64 N, .slice E M ce]) ∧ Hid (Blk wr va 45 (vls (vini N i)).toArray) ∧ Hid (Blk wr ea 3 (ints (eini N i)).toArray) ∧ Hid (Below w.heap.size w wr)) (fun x _ => N - (intOf x).toNat)
  case atStart => exact ⟨0, Nat.zero_le _, rfl, HKH1, HKV1, HKA1, HB1⟩
  case round =>
    obtain ⟨i, hi, rfl, HKH2, HKV2, HKA2, HB2⟩ := hrel
    clear HKH1 HKV1 HKA1 HB1
    have c0 : wr.cell? ⟨bh, 0, none⟩ = some (.int .i64 N) := HKH2.out.cell 0
    by_cases hlt : i < N
    case pos =>
      have hltD : decide (i < N) = true := by simp [hlt]
      obtain ⟨vi, hvi⟩ : ∃ vi, (vini N i)[i]? = some vi := ⟨_, List.getElem?_eq_getElem (by rw [vini_len hi]; exact hlt)⟩
      obtain ⟨v0, v1⟩ := HKV2.out.vl_at hvi
      have z0 := HKV2.out.frozen (i * 2)
      have z1 := HKV2.out.frozen (i * 2 + 1)
      obtain ⟨ei, hei⟩ : ∃ ei, (eini N i)[i]? = some ei := ⟨_, List.getElem?_eq_getElem (by rw [eini_len hi]; exact hlt)⟩
      have x0 : wr.cell? ⟨ea, i, none⟩ = some (.int .i64 ei) := by rw [HKA2.out.cell]; simp [ints, hei]
      have y0 := HKA2.out.frozen i
      have n0 := HLT.out
      have nva : ¬ va = ea := by omega
      have hv2 : (vini N i).set i vtop = vini N (i + 1) := ini_set hlt
      have he2 : (eini N i).set i (-1) = eini N (i + 1) := ini_set hlt
      have HKV3 : Hid (Blk (((wr.setCell ⟨va, i * 2, none⟩ (.int .i64 1099511627776)).setCell ⟨va, i * 2 + 1, none⟩ (.int .i64 0)).setCell ⟨ea, i, none⟩ (.int .i64 (-1))) va 45 (vls (vini N (i + 1))).toArray) := by
        rw [← hv2]
        exact (HKV2.out.vl_put (by rw [vini_len hi]; exact hlt) vtop).far (p := ⟨ea, i, none⟩) nva _
      have HKA3 : Hid (Blk (((wr.setCell ⟨va, i * 2, none⟩ (.int .i64 1099511627776)).setCell ⟨va, i * 2 + 1, none⟩ (.int .i64 0)).setCell ⟨ea, i, none⟩ (.int .i64 (-1))) ea 3 (ints (eini N (i + 1))).toArray) := by
        rw [← he2]
        have := (((HKA2.out.far (p := ⟨va, i * 2, none⟩) (fun e => nva e.symm) (.int .i64 1099511627776)).far (p := ⟨va, i * 2 + 1, none⟩) (fun e => nva e.symm) (.int .i64 0)).set_ i (.int .i64 (-1)))
        have e2 : (ints ((eini N i).set i (-1))).toArray = (ints (eini N i)).toArray.setIfInBounds i (.int .i64 (-1)) := by simp [ints, List.map_set]
        rw [e2]
        exact this
      have HKH3 : Hid (Blk (((wr.setCell ⟨va, i * 2, none⟩ (.int .i64 1099511627776)).setCell ⟨va, i * 2 + 1, none⟩ (.int .i64 0)).setCell ⟨ea, i, none⟩ (.int .i64 (-1))) bh 38 #[.int .i64 N, .slice E M ce]) :=
        ((HKH2.out.far (p := ⟨va, i * 2, none⟩) (by show bh ≠ va; omega) _).far (p := ⟨va, i * 2 + 1, none⟩) (by show bh ≠ va; omega) _).far (p := ⟨ea, i, none⟩) (by show bh ≠ ea; omega) _
      have HB3 : Hid (Below w.heap.size w (((wr.setCell ⟨va, i * 2, none⟩ (.int .i64 1099511627776)).setCell ⟨va, i * 2 + 1, none⟩ (.int .i64 0)).setCell ⟨ea, i, none⟩ (.int .i64 (-1)))) :=
        ((HB2.out.setCell (p := ⟨va, i * 2, none⟩) (by show w.heap.size ≤ va; omega) _).setCell (p := ⟨va, i * 2 + 1, none⟩) (by show w.heap.size ≤ va; omega) _).setCell (p := ⟨ea, i, none⟩) (by show w.heap.size ≤ ea; omega) _
      clear hv2 he2 hvi hei n0
      go_wp2_with fail
      go_roundw
      case rel => exact ⟨i + 1, by omega, by go_num, HKH3, HKV3, HKA3, HB3⟩
      case measure => simp [intOf]; omega
    case neg =>
      have hltD : decide (i < N) = false := by simp [hlt]
      obtain rfl : N = i := by omega
      clear hlt hi
      have hvi : vini N N = List.replicate N vtop := by simp [vini]
      have hei : eini N N = chB (gv (List.replicate N vtop)) es es.length N := by rw [chB_end]; simp [eini]
      rw [hvi] at HKV2
      have hei2 : eini N N = List.replicate N (-1) := by simp [eini]
      rw [hei2] at HKA2
      have HRI : Hid (RInv es (List.replicate N vtop)) := RInv.start es N
      have HPE : Hid (PassE true es (List.replicate N vtop)) := fun h => by simp at h
      clear hvi hei hei2
      go_wp2_with fail
      clear c0
      rename World => w4
      go_loopw [7] (fun x wr => ∃ (V : List Vl) (b : Bool), x = .bool b ∧ V.length = N ∧ Hid (Blk wr bh 38 #[.int .i64 N, .slice E M ce]) ∧ Hid (Blk wr va 45 (vls V).toArray) ∧ Hid (Blk wr ea 3 (ints (List.replicate N (-1))).toArray) ∧ Hid (Below w.heap.size w wr) ∧ Hid (RInv es V) ∧ Hid (PassE b es V)) (fun x wr => 2 * vmeas wr va + (match x with | .bool true => 1 | _ => 0))
      case atStart => exact ⟨_, true, rfl, by simp, HKH2, HKV2, HKA2, HB2, HRI, HPE⟩
      case round =>
        obtain ⟨V0, b, rfl, hVl0, HKH3, HKV3, HKA3, HB3, HRI3, HP3⟩ := hrel
        clear HKH2 HKV2 HKA2 HB2 HRI HPE
        cases b with
        | false =>
          have HSOL : Hid (Sol es (gv V0)) := HRI3.out.sol (PreK.all (HP3.out rfl))
          have HVO : Hid (∀ v ∈ V0, Ordy v) := HRI3.out.vord
          clear HP3 HRI3
          have hHA : chB (gv V0) es M N = List.replicate N (-1) := by rw [← HMM.out, chB_end]
          rw [← hHA] at HKA3
          have c1 : wr.cell? ⟨bh, 1, none⟩ = some (.slice E M ce) := HKH3.out.cell 1
          clear hHA
          go_wp2_with fail
          rename World => w5
          go_loopw [11] (fun x wr => ∃ (j : Nat) (q : Int), j ≤ M ∧ x = .int .i64 q ∧ Hid (q = (j : Int) - 1) ∧ Hid (Blk wr bh 38 #[.int .i64 N, .slice E M ce]) ∧ Hid (Blk wr va 45 (vls V0).toArray) ∧ Hid (Blk wr ea 3 (ints (chB (gv V0) es j N)).toArray) ∧ Hid (Below w.heap.size w wr)) (fun x _ => (intOf x + 1).toNat)
          case atStart => exact ⟨M, _, Nat.le_refl _, rfl, rfl, HKH3, HKV3, HKA3, HB3⟩
          case round =>
            obtain ⟨j, q, hj, rfl, HQ, HKH4, HKV4, HKA4, HB4⟩ := hrel
            clear HKH3 HKV3 HKA3 HB3 c1
            cases j with
            | zero =>
              obtain rfl : q = -1 := by rw [HQ.out]; rfl
              rw [chB_zero] at HKA4
              have n0 := HLT.out
              go_wp2_with fail
              go_ret2
              exact ⟨va, ea, V0, rfl, hVl0, HKV4.out, HKA4.out, HSOL.out, by omega, by omega, HB4.out⟩
            | succ k =>
              obtain rfl : q = (k : Int) := by rw [HQ.out]; omega
              have hlt : k < M := by omega
              have c1 : wr.cell? ⟨bh, 1, none⟩ = some (.slice E M ce) := HKH4.out.cell 1
              obtain ⟨b', off, e, hE', hb', he, p0, p1, p2, p3, p4, hR⟩ := (HE.out.below HB4.out).at_ hlt
              subst hE'
              have HRd := Lib.hid hR
              have HEk := Lib.hid he
              have heok := HES.out e (List.mem_of_getElem? he)
              obtain ⟨n, hn⟩ := Int.eq_ofNat_of_zero_le heok.hd.1
              have hnN : n < N := by have := heok.hd.2; omega
              have hbl : b' < wr.heap.size := by have := HB4.out.size; omega
              have HOKE := Lib.hid heok
              clear hR he heok
              rw [hn] at p0
              have HN := Lib.hid hn
              clear hn
              obtain ⟨vn, hvn⟩ : ∃ vn, gv V0 n = vn := ⟨_, rfl⟩
              have hvi : V0[n]? = some vn := by rw [← hvn, gv, List.getElem?_eq_getElem (by omega)]; rfl
              obtain ⟨v0, v1⟩ := HKV4.out.vl_at hvi
              have hvlt : va < wr.heap.size := HKV4.out.lt
              have HVN := Lib.hid hvn
              have hgeq : decide ((0 : Int) ≤ (k : Int)) = true := by simp
              clear hvn hvi
              go_upto_region 23 with fail
              obtain ⟨w6, hw6⟩ : ∃ w6, (wr.alloc (.cells #[.int .i64 (n : Nat), .slice e.A e.ts.length e.c, .int .i64 e.cost, .int .i64 e.l0, .int .i64 e.l1] 50)).alloc (.cells #[.int .i64 vn.c, .int .i64 vn.s] 45) = w6 := ⟨_, rfl⟩
              obtain ⟨be, hbe⟩ : ∃ be, wr.heap.size = be := ⟨_, rfl⟩
              have HKE : Hid (Blk w6 be 50 #[.int .i64 (n : Nat), .slice e.A e.ts.length e.c, .int .i64 e.cost, .int .i64 e.l0, .int .i64 e.l1]) := by rw [← hw6, ← hbe]; exact (Blk.new' wr _ _ rfl).alloc _
              have HKY : Hid (Blk w6 (be + 1) 45 #[.int .i64 vn.c, .int .i64 vn.s]) := by rw [← hw6, ← hbe]; exact Blk.new' _ _ _ (by simp)
              have hxb : Below wr.heap.size wr w6 := by rw [← hw6]; exact ((Below.refl _ _).alloc (Nat.le_refl _) _).alloc (by simp) _
              have HKH5 := Lib.hid (HKH4.out.below hxb HKH4.out.lt)
              have HKV5 := Lib.hid (HKV4.out.below hxb HKV4.out.lt)
              have HKA5 := Lib.hid (HKA4.out.below hxb HKA4.out.lt)
              have HB5 : Hid (Below w.heap.size w w6) := HB4.out.trans (hxb.mono HB4.out.size)
              have HRd5 := Lib.hid (HRd.out.below (hxb.mono HB4.out.size))
              rw [hw6, hbe]
              clear hw6 hbe hxb HKH4 HKV4 HKA4 HB4 HRd p0 p1 p2 p3 p4 hbl hb' c1 v0 v1 hvlt hgeq
              obtain ⟨L, hL⟩ : ∃ L, tlv (gv V0) e.ts = L := ⟨_, rfl⟩
              obtain ⟨y, hy⟩ : ∃ y, comb e.cost L = y := ⟨_, rfl⟩
              have hey : ev (gv V0) e = y := by rw [← hy, ← hL]; rfl
              have hatt : att (gv V0) e = (decide (vn.c < 1099511627776) && (decide (y.c = vn.c) && decide (y.s = vn.s))) := by
                unfold att
                rw [HN.out, Int.toNat_natCast, HVN.out, hey]
              have hLl : L.length ≤ 4 := by rw [← hL]; simp only [tlv, List.length_map]; exact HOKE.out.few
              have HLO : Hid (∀ v ∈ L, Ordy v) := by rw [← hL]; exact tlv_ord HSOL.out.nrm e.ts
              have HT : Hid (∀ w9, Below w6.heap.size w6 w9 → Calls Tryd.prog 38 #[.agg #[.int .i64 (n : Nat), .slice e.A e.ts.length e.c, .int .i64 e.cost, .int .i64 e.l0, .int .i64 e.l1], .slice (some ⟨va, 0, none⟩) N N] w9 (RetVls L w9)) := fun w9 h9 => by
                rw [← hL]
                exact rtails_any w9 w6.heap.size N N (some ⟨va, 0, none⟩) V0 n e.cost e.l0 e.l1 e.A e.c e.ts ((Reads.of_blk HKV5.out HKV5.out.lt (by simp) (by rw [vls_length, hVl0])).below h9) ((HRd5.out.more HB5.out.size).below h9) h9.size HOKE.out.ts (by have := HOKE.out.few; omega)
              have HCB : Hid (∀ (w9 : World) (A : Option Addr) (c B : Nat), Reads w9 B 2 A L.length (vls L) → B ≤ w9.heap.size → Calls Tryd.prog 25 #[.int .i64 e.cost, .slice A L.length c] w9 fun e' w' => e' = .returned (.agg #[.int .i64 y.c, .int .i64 y.s]) ∧ Below w9.heap.size w9 w') := fun w9 A c B h1 h2 => by
                rw [← hy]
                exact rcombine_any e.cost A L.length c B L w9 h1 h2 HOKE.out.cost.1 HOKE.out.cost.2 HLO.out (by omega)
              have HATT := Lib.hid hatt
              have x1 : w6.cell? ⟨be + 1, 0, none⟩ = some (.int .i64 vn.c) := HKY.out.cell 0
              clear hatt hL hy hey
              cases hfin : decide (vn.c < 1099511627776) with
              | false =>
                have hno : att (gv V0) e = false := by rw [HATT.out, hfin]; rfl
                have HNO := Lib.hid hno
                clear hno
                go_quiet (fail)
                go_wp2_with fail
                go_roundw
                case rel => exact ⟨k, _, by omega, rfl, by show Hid (_ = _); exact rfl, HKH5, HKV5, by rw [chB_same HEk.out HNO.out]; exact HKA5, below_drewN HB5.out _⟩
                case measure => simp [intOf]
              | true =>
                have HFIN := Lib.hid hfin
                have H9 : Hid (∀ w9, Below w6.heap.size w6 w9 → w9.cell? ⟨be, 0, none⟩ = some (.int .i64 (n : Nat)) ∧ w9.cell? ⟨be, 1, none⟩ = some (.slice e.A e.ts.length e.c) ∧ w9.cell? ⟨be, 2, none⟩ = some (.int .i64 e.cost) ∧ w9.cell? ⟨be, 3, none⟩ = some (.int .i64 e.l0) ∧ w9.cell? ⟨be, 4, none⟩ = some (.int .i64 e.l1) ∧ w9.cell? ⟨be + 1, 0, none⟩ = some (.int .i64 vn.c) ∧ w9.cell? ⟨be + 1, 1, none⟩ = some (.int .i64 vn.s) ∧ Below w6.heap.size w6 w9) := fun w9 h => by
                  have K := HKE.out.below h HKE.out.lt
                  have K2 := HKY.out.below h HKY.out.lt
                  exact ⟨K.cell 0, K.cell 1, K.cell 2, K.cell 3, K.cell 4, K2.cell 0, K2.cell 1, h⟩
                have B8 : Below w6.heap.size w6 w6.drew := (Below.refl _ _).drew
                have hE := HEQ.out
                clear x1
                cases hat : (decide (y.c = vn.c) && decide (y.s = vn.s)) with
                | false =>
                  have hno : att (gv V0) e = false := by rw [HATT.out, hfin, hat]; rfl
                  have HNO := Lib.hid hno
                  clear hno
                  go_region_held3 (fun w' => w'.cell? ⟨be, 0, none⟩ = some (.int .i64 (n : Nat)) ∧ w'.cell? ⟨be, 1, none⟩ = some (.slice e.A e.ts.length e.c) ∧ w'.cell? ⟨be, 2, none⟩ = some (.int .i64 e.cost) ∧ w'.cell? ⟨be, 3, none⟩ = some (.int .i64 e.l0) ∧ w'.cell? ⟨be, 4, none⟩ = some (.int .i64 e.l1) ∧ w'.cell? ⟨be + 1, 0, none⟩ = some (.int .i64 vn.c) ∧ w'.cell? ⟨be + 1, 1, none⟩ = some (.int .i64 vn.s) ∧ Below w6.heap.size w6 w')
                    (first | exact H9.out _ B8 | exact H9.out _ X7 | exact H9.out _ X5)
                    (first
                      | (go_at_call 38; (with_reducible refine (HT.out _ B8).mono ?_); rintro e5 w5 ⟨A5, c5, rfl, r5, hb5⟩; have X5 : Below w6.heap.size w6 w5 := B8.trans (hb5.mono (Nat.le_refl _)); have hz5 : w6.heap.size ≤ w5.heap.size := X5.size)
                      | (go_at_call 25; (with_reducible refine (HCB.out _ A5 c5 w5.heap.size r5 (Nat.le_refl _)).mono ?_); rintro e7 w7 ⟨rfl, hb7⟩; have X7 : Below w6.heap.size w6 w7 := X5.trans (hb7.mono hz5); have hz7 : w6.heap.size ≤ w7.heap.size := X7.size))
                  clear hE
                  all_goals
                    go_wp2_with fail
                    go_roundw
                    case rel => exact ⟨k, _, by omega, rfl, by show Hid (_ = _); exact rfl, HKH5.out.below X7 HKH5.out.lt, HKV5.out.below X7 HKV5.out.lt, by rw [chB_same HEk.out HNO.out]; exact HKA5.out.below X7 HKA5.out.lt, HB5.out.trans (X7.mono HB5.out.size)⟩
                    case measure => simp [intOf]
                | true =>
                  have hyes : att (gv V0) e = true := by rw [HATT.out, hfin, hat]; rfl
                  have HYES := Lib.hid hyes
                  have hci : (chB (gv V0) es (k + 1) N)[n]? = some (choB (gv V0) es (k + 1) n) := chB_at hnN
                  obtain ⟨cc, hcc⟩ : ∃ cc, choB (gv V0) es (k + 1) n = cc := ⟨_, rfl⟩
                  rw [hcc] at hci
                  clear hyes hcc
                  go_region_held3 (fun w' => w'.cell? ⟨be, 0, none⟩ = some (.int .i64 (n : Nat)) ∧ w'.cell? ⟨be, 1, none⟩ = some (.slice e.A e.ts.length e.c) ∧ w'.cell? ⟨be, 2, none⟩ = some (.int .i64 e.cost) ∧ w'.cell? ⟨be, 3, none⟩ = some (.int .i64 e.l0) ∧ w'.cell? ⟨be, 4, none⟩ = some (.int .i64 e.l1) ∧ w'.cell? ⟨be + 1, 0, none⟩ = some (.int .i64 vn.c) ∧ w'.cell? ⟨be + 1, 1, none⟩ = some (.int .i64 vn.s) ∧ Below w6.heap.size w6 w')
                    (first | exact H9.out _ B8 | exact H9.out _ X7 | exact H9.out _ X5)
                    (first
                      | (go_at_call 38; (with_reducible refine (HT.out _ B8).mono ?_); rintro e5 w5 ⟨A5, c5, rfl, r5, hb5⟩; have X5 : Below w6.heap.size w6 w5 := B8.trans (hb5.mono (Nat.le_refl _)); have hz5 : w6.heap.size ≤ w5.heap.size := X5.size)
                      | (go_at_call 25; (with_reducible refine (HCB.out _ A5 c5 w5.heap.size r5 (Nat.le_refl _)).mono ?_); rintro e7 w7 ⟨rfl, hb7⟩; have X7 : Below w6.heap.size w6 w7 := X5.trans (hb7.mono hz5); have hz7 : w6.heap.size ≤ w7.heap.size := X7.size; have k0 : w7.cell? ⟨be, 0, none⟩ = some (.int .i64 (n : Nat)) := (HKE.out.below X7 HKE.out.lt).cell 0; have KA := HKA5.out.below X7 HKA5.out.lt; have HKA7 := Lib.hid KA; have a0 : w7.cell? ⟨ea, n, none⟩ = some (.int .i64 cc) := (by rw [KA.cell]; simp [ints, hci]); have a1 := KA.frozen n; clear KA))
                  clear hE
                  all_goals
                    clear hci
                    go_wp2_with fail
                    go_roundw
                    case rel =>
                      have n0 := HLT.out
                      refine ⟨k, _, by omega, rfl, by show Hid (_ = _); exact rfl, (HKH5.out.below X7 HKH5.out.lt).far (p := ⟨ea, n, none⟩) (by show bh ≠ ea; omega) _, (HKV5.out.below X7 HKV5.out.lt).far (p := ⟨ea, n, none⟩) (by show va ≠ ea; omega) _, ?_, (HB5.out.trans (X7.mono HB5.out.size)).setCell (p := ⟨ea, n, none⟩) (by show w.heap.size ≤ ea; omega) _⟩
                      rw [← chB_set (n := n) HEk.out (by rw [HN.out, Int.toNat_natCast]) HYES.out]
                      have := HKA7.out.set_ n (.int .i64 (k : Nat))
                      have e2 : (ints ((chB (gv V0) es (k + 1) N).set n (k : Int))).toArray = (ints (chB (gv V0) es (k + 1) N)).toArray.setIfInBounds n (.int .i64 (k : Nat)) := by simp [ints, List.map_set]
                      rw [e2]
                      exact this
                    case measure => simp [intOf]
        | true =>
          have hme : vmeas wr va = rks V0 := vmeas_eq HKV3.out
          have HME := Lib.hid hme
          have HPK : Hid (PassS false es V0 V0 0) := ⟨fun _ => ⟨rfl, fun j e hj => absurd hj (Nat.not_lt_zero _)⟩, fun h => by simp at h⟩
          clear hme HP3
          go_wp2_with fail
          rename World => w5
          go_loopw [7, 8] (fun x y wr => ∃ (k : Nat) (V : List Vl) (b : Bool), k ≤ M ∧ y = .int .i64 k ∧ x = .bool b ∧ V.length = N ∧ Hid (Blk wr bh 38 #[.int .i64 N, .slice E M ce]) ∧ Hid (Blk wr va 45 (vls V).toArray) ∧ Hid (Blk wr ea 3 (ints (List.replicate N (-1))).toArray) ∧ Hid (Below w.heap.size w wr) ∧ Hid (RInv es V) ∧ Hid (PassS b es V0 V k)) (fun _ y _ => M - (intOf y).toNat)
          case atStart => exact ⟨0, V0, false, Nat.zero_le _, rfl, rfl, hVl0, HKH3, HKV3, HKA3, HB3, HRI3, HPK⟩
          case round =>
            obtain ⟨k, V, b, hk, rfl, rfl, hVl, HKH4, HKV4, HKA4, HB4, HRI4, HP4⟩ := hrel
            clear HKH3 HKV3 HKA3 HB3 HRI3 HPK
            have c1 : wr.cell? ⟨bh, 1, none⟩ = some (.slice E M ce) := HKH4.out.cell 1
            by_cases hlt : k < M
            case neg =>
              have hltD : decide (k < M) = false := by simp [hlt]
              obtain rfl : M = k := by omega
              clear hlt hk
              go_wp2_with fail
              go_roundw
              case rel => exact ⟨V, b, rfl, hVl, HKH4, HKV4, HKA4, HB4, HRI4, fun h => by rw [HMM.out]; exact (HP4.out.1 h).2⟩
              case measure =>
                have e1 : vmeas wr va = rks V := vmeas_eq HKV4.out
                rw [HME.out, e1]
                cases b with
                | true => have := HP4.out.2 rfl; simp only; omega
                | false => have := (HP4.out.1 rfl).1; subst this; simp
            case pos =>
              have hltD : decide (k < M) = true := by simp [hlt]
              obtain ⟨b', off, e, hE', hb', he, p0, p1, p2, p3, p4, hR⟩ := (HE.out.below HB4.out).at_ hlt
              subst hE'
              have HRd := Lib.hid hR
              have HEk := Lib.hid he
              have heok := HES.out e (List.mem_of_getElem? he)
              obtain ⟨n, hn⟩ := Int.eq_ofNat_of_zero_le heok.hd.1
              have hnN : n < N := by have := heok.hd.2; omega
              have hbl : b' < wr.heap.size := by have := HB4.out.size; omega
              have HOKE := Lib.hid heok
              clear hR he heok
              rw [hn] at p0
              have HN := Lib.hid hn
              clear hn
              go_upto_region 14 with fail
              obtain ⟨w6, hw6⟩ : ∃ w6, wr.alloc (.cells #[.int .i64 (n : Nat), .slice e.A e.ts.length e.c, .int .i64 e.cost, .int .i64 e.l0, .int .i64 e.l1] 50) = w6 := ⟨_, rfl⟩
              obtain ⟨be, hbe⟩ : ∃ be, wr.heap.size = be := ⟨_, rfl⟩
              have HKE : Hid (Blk w6 be 50 #[.int .i64 (n : Nat), .slice e.A e.ts.length e.c, .int .i64 e.cost, .int .i64 e.l0, .int .i64 e.l1]) := by rw [← hw6, ← hbe]; exact Blk.new' wr _ _ rfl
              have hxb : Below wr.heap.size wr w6 := by rw [← hw6]; exact (Below.refl _ _).alloc (Nat.le_refl _) _
              have HKH5 := Lib.hid (HKH4.out.below hxb HKH4.out.lt)
              have HKV5 := Lib.hid (HKV4.out.below hxb HKV4.out.lt)
              have HKA5 := Lib.hid (HKA4.out.below hxb HKA4.out.lt)
              have HB5 : Hid (Below w.heap.size w w6) := HB4.out.trans (hxb.mono HB4.out.size)
              have HRd5 := Lib.hid (HRd.out.below (hxb.mono HB4.out.size))
              rw [hw6, hbe]
              clear hw6 hbe hxb HKH4 HKV4 HKA4 HB4 HRd p0 p1 p2 p3 p4 hbl hb' c1
              obtain ⟨vn, hvn⟩ : ∃ vn, gv V n = vn := ⟨_, rfl⟩
              have hvi : V[n]? = some vn := by rw [← hvn, gv, List.getElem?_eq_getElem (by omega)]; rfl
              obtain ⟨L, hL⟩ : ∃ L, tlv (gv V) e.ts = L := ⟨_, rfl⟩
              obtain ⟨y, hy⟩ : ∃ y, comb e.cost L = y := ⟨_, rfl⟩
              have hey : ev (gv V) e = y := by rw [← hy, ← hL]; rfl
              have hLl : L.length ≤ 4 := by rw [← hL]; simp only [tlv, List.length_map]; exact HOKE.out.few
              have HLO : Hid (∀ v ∈ L, Ordy v) := by rw [← hL]; exact tlv_ord HRI4.out.nV e.ts
              have HT : Hid (∀ w9, Below w6.heap.size w6 w9 → Calls Tryd.prog 38 #[.agg #[.int .i64 (n : Nat), .slice e.A e.ts.length e.c, .int .i64 e.cost, .int .i64 e.l0, .int .i64 e.l1], .slice (some ⟨va, 0, none⟩) N N] w9 (RetVls L w9)) := fun w9 h9 => by
                rw [← hL]
                exact rtails_any w9 w6.heap.size N N (some ⟨va, 0, none⟩) V n e.cost e.l0 e.l1 e.A e.c e.ts ((Reads.of_blk HKV5.out HKV5.out.lt (by simp) (by rw [vls_length, hVl])).below h9) ((HRd5.out.more HB5.out.size).below h9) h9.size HOKE.out.ts (by have := HOKE.out.few; omega)
              have HCB : Hid (∀ (w9 : World) (A : Option Addr) (c B : Nat), Reads w9 B 2 A L.length (vls L) → B ≤ w9.heap.size → Calls Tryd.prog 25 #[.int .i64 e.cost, .slice A L.length c] w9 fun e' w' => e' = .returned (.agg #[.int .i64 y.c, .int .i64 y.s]) ∧ Below w9.heap.size w9 w') := fun w9 A c B h1 h2 => by
                rw [← hy]
                exact rcombine_any e.cost A L.length c B L w9 h1 h2 HOKE.out.cost.1 HOKE.out.cost.2 HLO.out (by omega)
              have HY := Lib.hid hey
              have HVN := Lib.hid hvn
              have H9 : Hid (∀ w9, Below w6.heap.size w6 w9 → w9.cell? ⟨be, 0, none⟩ = some (.int .i64 (n : Nat)) ∧ w9.cell? ⟨be, 1, none⟩ = some (.slice e.A e.ts.length e.c) ∧ w9.cell? ⟨be, 2, none⟩ = some (.int .i64 e.cost) ∧ w9.cell? ⟨be, 3, none⟩ = some (.int .i64 e.l0) ∧ w9.cell? ⟨be, 4, none⟩ = some (.int .i64 e.l1) ∧ Below w6.heap.size w6 w9) := fun w9 h => by
                have K := HKE.out.below h HKE.out.lt
                exact ⟨K.cell 0, K.cell 1, K.cell 2, K.cell 3, K.cell 4, h⟩
              have B8 : Below w6.heap.size w6 w6.drew := (Below.refl _ _).drew
              have B8' : Below w6.heap.size w6 (w6.alloc (.cells #[.int .i64 0, .int .i64 0] 45)).drew := ((Below.refl _ w6).alloc (Nat.le_refl _) _).drew
              have Z8 : Blk (w6.alloc (.cells #[.int .i64 0, .int .i64 0] 45)).drew w6.heap.size 45 #[.int .i64 0, .int .i64 0] := (Blk.new' w6 45 #[.int .i64 0, .int .i64 0] (g := w6.heap.size) rfl).drew1
              have hz8 : w6.heap.size ≤ (w6.alloc (.cells #[.int .i64 0, .int .i64 0] 45)).drew.heap.size := B8'.size
              have hz8n := Z8.lt
              clear hvn hL hy hey
              go_cut [10] (fun x10 wx => ∃ g : Nat, x10 = .pointer (some ⟨g, 0, none⟩) ∧ Blk wx g 45 #[.int .i64 y.c, .int .i64 y.s] ∧ Below w6.heap.size w6 wx)
              case first =>
                go_region_held3 (fun w' => w'.cell? ⟨be, 0, none⟩ = some (.int .i64 (n : Nat)) ∧ w'.cell? ⟨be, 1, none⟩ = some (.slice e.A e.ts.length e.c) ∧ w'.cell? ⟨be, 2, none⟩ = some (.int .i64 e.cost) ∧ w'.cell? ⟨be, 3, none⟩ = some (.int .i64 e.l0) ∧ w'.cell? ⟨be, 4, none⟩ = some (.int .i64 e.l1) ∧ Below w6.heap.size w6 w')
                  (first | exact H9.out _ B8 | exact H9.out _ B8' | exact H9.out _ X7 | exact H9.out _ (X7.alloc hz7 _) | exact H9.out _ X5 | exact H9.out _ (X5.alloc hz5 _) | exact H9.out _ ((X7.setCell (Nat.le_refl _) _).setCell (Nat.le_refl _) _) | exact H9.out _ ((X7.setCell hz5 _).setCell hz5 _))
                  (first
                    | (go_at_call 38; (with_reducible refine (HT.out _ B8).mono ?_); rintro e5 w5 ⟨A5, c5, rfl, r5, hb5⟩; have X5 : Below w6.heap.size w6 w5 := B8.trans (hb5.mono (Nat.le_refl _)); have hz5 : w6.heap.size ≤ w5.heap.size := X5.size)
                    | (go_at_call 38; (with_reducible refine (HT.out _ B8').mono ?_); rintro e5 w5 ⟨A5, c5, rfl, r5, hb5⟩; have X5 : Below w6.heap.size w6 w5 := B8'.trans (hb5.mono hz8); have hz5 : w6.heap.size ≤ w5.heap.size := X5.size; have Z5 := Z8.below hb5 hz8n)
                    | (go_at_call 25; (with_reducible refine (HCB.out _ A5 c5 w5.heap.size r5 (Nat.le_refl _)).mono ?_); rintro e7 w7 ⟨rfl, hb7⟩; have X7 : Below w6.heap.size w6 w7 := X5.trans (hb7.mono hz5); have hz7 : w6.heap.size ≤ w7.heap.size := X7.size; have Z7 := Z5.below hb7 Z5.lt; have n0 := Z7.cell 0; have n1 := Z7.cell 1; have m0 := Z7.frozen 0; have m1 := Z7.frozen 1; simp at n0 n1)
                    | (go_at_call 25; (with_reducible refine (HCB.out _ A5 c5 w5.heap.size r5 (Nat.le_refl _)).mono ?_); rintro e7 w7 ⟨rfl, hb7⟩; have X7 : Below w6.heap.size w6 w7 := X5.trans (hb7.mono hz5); have hz7 : w6.heap.size ≤ w7.heap.size := X7.size)
                    | (go_at_call 25; (with_reducible refine (HCB.out _ A5 c5 w5.heap.size (r5.alloc (Nat.le_refl _) _) (Below.size ((Below.refl w5.heap.size w5).alloc (Nat.le_refl _) _))).mono ?_); rintro e7 w7 ⟨rfl, hb7⟩; have X7 : Below w6.heap.size w6 w7 := (X5.alloc hz5 _).trans (hb7.mono (Nat.le_trans hz5 (Below.size ((Below.refl w5.heap.size w5).alloc (Nat.le_refl _) _)))); have hz7 : w6.heap.size ≤ w7.heap.size := X7.size; have Z7 := (Blk.new' w5 45 #[.int .i64 0, .int .i64 0] rfl).below hb7 (Blk.new' w5 45 #[.int .i64 0, .int .i64 0] rfl).lt; have n0 := Z7.cell 0; have n1 := Z7.cell 1; have m0 := Z7.frozen 0; have m1 := Z7.frozen 1; simp at n0 n1))
                all_goals
                  go_wp2_with fail
                  go_meet
                  first
                    | exact ⟨_, rfl, Blk.new' w7 _ _ rfl, X7.alloc hz7 _⟩
                    | exact ⟨_, rfl, Z7.set2 _ _, (X7.setCell (Nat.le_refl _) _).setCell (Nat.le_refl _) _⟩
                    | exact ⟨_, rfl, Z7.set2 _ _, (X7.setCell hz5 _).setCell hz5 _⟩
              case rest =>
                obtain ⟨g, rfl, KY, X7⟩ := hcut
                rename World => w8
                have hgl := KY.lt
                have HKE8 := Lib.hid (HKE.out.below X7 HKE.out.lt)
                have HKH8 := Lib.hid (HKH5.out.below X7 HKH5.out.lt)
                have HKV8 := Lib.hid (HKV5.out.below X7 HKV5.out.lt)
                have HKA8 := Lib.hid (HKA5.out.below X7 HKA5.out.lt)
                have HB8 : Hid (Below w.heap.size w w8) := HB5.out.trans (X7.mono HB5.out.size)
                have HKY := Lib.hid KY
                clear H9 B8 B8' Z8 hz8 hz8n HT HCB HKE HKH5 HKV5 HKA5 HB5 HRd5 KY X7
                obtain ⟨v0, v1⟩ := HKV8.out.vl_at hvi
                have f0 := ext_cell (HKY.out.cell 0)
                have f1 := ext_cell (HKY.out.cell 1)
                have f2 := ext_cell (HKE8.out.cell 0)
                have f3 := ext_cell v0
                have f4 := ext_cell v1
                clear v0 v1
                have hoy : Ordy y := by rw [← HY.out]; exact (ev_nrm HRI4.out.nV HOKE.out.cost.1).1
                have hov : Ordy vn := by rw [← HVN.out]; exact (HRI4.out.nV n).1
                have HOO := Lib.hid (And.intro hoy hov)
                clear hoy hov
                have HL1 := Lib.hid (fun w => rless_any y.c y.s vn.c vn.s w)
                cases h1 : vlt y.c y.s vn.c vn.s with
                | false =>
                  rw [h1] at HL1
                  have HV1 := Lib.hid h1
                  clear h1 hvi
                  go_wp2_with fail
                  refine wp_region_ext (by kernel_rfl) (by kernel_rfl) ?_
                  repeat (go_big_quiet_step (exact calls_ext (HL1.out _)))
                  refine wpQuiet_nil ?_
                  rintro _ ⟨u, rfl⟩
                  clear f0 f1 f2 f3 f4
                  go_wp2_with fail
                  go_roundw
                  case rel =>
                    refine ⟨k + 1, V, b, by omega, by go_num, rfl, hVl, HKH8.out.below u.h HKH8.out.lt, HKV8.out.below u.h HKV8.out.lt, HKA8.out.below u.h HKA8.out.lt, HB8.out.trans (u.h.mono HB8.out.size), HRI4, ⟨fun h => ⟨(HP4.out.1 h).1, (HP4.out.1 h).2.next HEk.out ?_⟩, HP4.out.2⟩⟩
                    rw [HN.out, Int.toNat_natCast, HVN.out, HY.out]
                    apply Classical.byContradiction
                    intro hc
                    have := vlt_nle.2 hc
                    rw [HV1.out] at this
                    exact absurd this (by simp)
                  case measure => simp [intOf]; omega
                | true =>
                  rw [h1] at HL1
                  have HRK := Lib.hid (rks_set (u := y) hvi (vlt_rk HOO.out.1 HOO.out.2 h1))
                  have HVI := Lib.hid hvi
                  clear h1 hvi
                  go_wp2_with fail
                  refine wp_region_ext (by kernel_rfl) (by kernel_rfl) ?_
                  repeat (go_big_quiet_step (exact calls_ext (HL1.out _)))
                  refine wpQuiet_nil ?_
                  rintro _ ⟨u, rfl⟩
                  have g0 := f0 u
                  have g1 := f1 u
                  have g2 := f2 u
                  have g3 := f3 u
                  have g4 := f4 u
                  have z0 : u.W.frozen? ⟨va, n * 2, none⟩ = false := (HKV8.out.below u.h HKV8.out.lt).frozen (n * 2)
                  have z1 : u.W.frozen? ⟨va, n * 2 + 1, none⟩ = false := (HKV8.out.below u.h HKV8.out.lt).frozen (n * 2 + 1)
                  simp at g0 g1 g2
                  clear f0 f1 f2 f3 f4
                  go_wp2_with fail
                  go_roundw
                  case rel =>
                    have n0 := HLT.out
                    refine ⟨k + 1, V.set n y, true, by omega, by go_num, rfl, by rw [List.length_set]; exact hVl, ((HKH8.out.below u.h HKH8.out.lt).far (p := ⟨va, n * 2, none⟩) (by show bh ≠ va; omega) _).far (p := ⟨va, n * 2 + 1, none⟩) (by show bh ≠ va; omega) _, (HKV8.out.below u.h HKV8.out.lt).vl_put (by rw [hVl]; exact hnN) y, ((HKA8.out.below u.h HKA8.out.lt).far (p := ⟨va, n * 2, none⟩) (by show ea ≠ va; omega) _).far (p := ⟨va, n * 2 + 1, none⟩) (by show ea ≠ va; omega) _, ((HB8.out.trans (u.h.mono HB8.out.size)).setCell (p := ⟨va, n * 2, none⟩) (by show w.heap.size ≤ va; omega) _).setCell (p := ⟨va, n * 2 + 1, none⟩) (by show w.heap.size ≤ va; omega) _, ?_, ⟨fun h => by simp at h, fun _ => ?_⟩⟩
                    · rw [← HY.out]
                      exact HRI4.out.put (List.mem_of_getElem? HEk.out) HOKE.out.cost.1 (by rw [HN.out]; rfl) (by rw [hVl]; exact hnN)
                    · have h3 := HRK.out
                      cases b with
                      | true => have := HP4.out.2 rfl; omega
                      | false => rw [← (HP4.out.1 rfl).1]; exact h3
                  case measure => simp [intOf]; omega
end Go.Proofs.YthakcefgbggkcaaDoor
