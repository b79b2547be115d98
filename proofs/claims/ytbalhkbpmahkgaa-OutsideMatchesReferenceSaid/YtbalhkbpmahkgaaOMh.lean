/- Outside, Through, EdgeThrough and their references. -/
import Derived.Test.YtbalhkbpmahkgaaOMo
import Derived.StillTailTactics
import Derived.Test.YtbalhkbpmahkgaaOMg
import Derived.Test.YtbalhkbpmahkgaaOMe
import Derived.Deep.DeepCutAuto
namespace Go.Proofs.Ytbalhkbpmahkgaa
open Go.RowKit

theorem RetL.mono {N : Nat} {P Q : List Int → Prop} {w : World} {e : Ending} {w' : World} (h : RetL N P w e w') (hpq : ∀ l, l.length = N → P l → Q l) : RetL N Q w e w' := by
  obtain ⟨g, l, h1, h2, h3, h4, h5, h6⟩ := h
  exact ⟨g, l, h1, h2, h3, hpq l h2 h4, h5, h6⟩
def IsOut (es : List Ed) (root : Int) (N : Nat) (l : List Int) : Prop := ∃ U, Sol es U ∧ OSol es (inC U) root N (gi l)
def IsThr (es : List Ed) (root : Int) (N : Nat) (l : List Int) : Prop := ∃ (U : Nat → Vl) (O : Nat → Int), Sol es U ∧ OSol es (inC U) root N O ∧ ∀ i, i < N → l[i]? = some (mn (O i + inC U i))
def IsEth (es : List Ed) (root : Int) (N : Nat) (l : List Int) : Prop := ∃ (U : Nat → Vl) (O : Nat → Int), Sol es U ∧ OSol es (inC U) root N O ∧ ∀ (k : Nat) (e : Ed), es[k]? = some e → l[k]? = some (eth (inC U) O e)
theorem ext_n {l l' : List Int} {N : Nat} (h1 : l.length = N) (h2 : l'.length = N) (h : ∀ i, i < N → l[i]? = l'[i]?) : l = l' := by
  apply List.ext_getElem?
  intro i
  by_cases hi : i < N
  · exact h i hi
  · rw [List.getElem?_eq_none (by omega), List.getElem?_eq_none (by omega)]
section
variable {es : List Ed} {root : Int} {N : Nat} {l l' : List Int}
theorem IsOut.uniq (h : IsOut es root N l) (h' : IsOut es root N l') (h1 : l.length = N) (h2 : l'.length = N) : l = l' := by
  obtain ⟨U, hs, ho⟩ := h
  obtain ⟨U', hs', ho'⟩ := h'
  obtain rfl := hs.uniq hs'
  have he := ho.uniq ho'
  refine ext_n h1 h2 fun i hi => ?_
  have := congrFun he i
  unfold gi at this
  rw [List.getElem?_eq_getElem (by omega), List.getElem?_eq_getElem (by omega)] at this ⊢
  simpa using this
theorem IsThr.uniq (h : IsThr es root N l) (h' : IsThr es root N l') (h1 : l.length = N) (h2 : l'.length = N) : l = l' := by
  obtain ⟨U, O, hs, ho, hl⟩ := h
  obtain ⟨U', O', hs', ho', hl'⟩ := h'
  obtain rfl := hs.uniq hs'
  obtain rfl := ho.uniq ho'
  exact ext_n h1 h2 fun i hi => by rw [hl i hi, hl' i hi]
theorem IsEth.uniq (h : IsEth es root N l) (h' : IsEth es root N l') (h1 : l.length = es.length) (h2 : l'.length = es.length) : l = l' := by
  obtain ⟨U, O, hs, ho, hl⟩ := h
  obtain ⟨U', O', hs', ho', hl'⟩ := h'
  obtain rfl := hs.uniq hs'
  obtain rfl := ho.uniq ho'
  exact ext_n h1 h2 fun i hi => by
    have he := List.getElem?_eq_getElem hi
    rw [hl i _ he, hl' i _ he]
end
/-- A list while it is written over. -/
def over (l o : List Int) (i : Nat) : List Int := l.take i ++ o.drop i
theorem over_zero (l o : List Int) : over l o 0 = o := by simp [over]
theorem over_end {l o : List Int} (h : o.length = l.length) : over l o l.length = l := by unfold over; rw [List.take_length, List.drop_eq_nil_of_le (by omega), List.append_nil]
theorem over_at {l o : List Int} {i : Nat} {x : Int} (h : o.length = l.length) (hx : o[i]? = some x) : (over l o i)[i]? = some x := by
  have hi := (List.getElem?_eq_some_iff.1 hx).1
  unfold over
  rw [List.getElem?_append_right (by simp; omega), List.getElem?_drop]
  simp only [List.length_take]
  rw [show i + (i - min i l.length) = i by omega]
  exact hx
theorem over_set {l o : List Int} {i : Nat} {x : Int} (h : o.length = l.length) (hx : l[i]? = some x) : (over l o i).set i x = over l o (i + 1) := by
  obtain ⟨hi, he⟩ := List.getElem?_eq_some_iff.1 hx
  unfold over
  rw [List.take_add_one, hx, List.set_append_right _ _ (by simp; omega), List.drop_eq_getElem_cons (show i < o.length by omega)]
  simp only [List.length_take]
  rw [show i - min i l.length = 0 by omega, List.set_cons_zero]
  simp
theorem outside_is (w : World) (N ce B g : Nat) (E : Option Addr) (es : List Ed) (il : List Int) (root : Int) (hE : HG w B E es.length es) (hB : B ≤ w.heap.size) (hes : ∀ e ∈ es, e.Ok N) (hN : N ≤ 30) (hN1 : 1 ≤ N) (hM : es.length ≤ 60)
    (hl : il.length = N) (hg : Blk w g 3 (ints il).toArray) (hi : IsIn es il) :
    Calls Try.prog 28 #[.agg #[.int .i64 N, .slice E es.length ce], .slice (some ⟨g, 0, none⟩) N N, .int .i64 root] w (RetL N (fun l => ∃ U, Sol es U ∧ IsL il N (inC U) ∧ OSol es (inC U) root N (gi l)) w) := by
  obtain ⟨U, hs, hL⟩ := hi.isL hl
  exact (outside_any w N ce N w.heap.size E (some ⟨g, 0, none⟩) es il (inC U) root (hE.more hB) (Nat.le_refl _) hes hN hN1 hM (Reads.of_blk hg hg.lt (by simp) (by simp [ints, hl])) hL (fun i => inC_ord hs.nrm i)).mono fun e w' h => h.mono fun l _ ho => ⟨U, hs, hL, ho⟩
set_option maxRecDepth 100000 in
set_option maxHeartbeats 4000000 in
theorem poutside_any (w : World) (N ce B : Nat) (E : Option Addr) (es : List Ed) (root : Int) (hE : HG w B E es.length es) (hB : B ≤ w.heap.size) (hes : ∀ e ∈ es, e.Ok N) (hN : N ≤ 30) (hN1 : 1 ≤ N) (hM : es.length ≤ 60) :
    Calls Try.prog 13 #[.agg #[.int .i64 N, .slice E es.length ce], .int .i64 root] w (RetL N (IsOut es root N) w) := by
  have HE := Lib.hid (hE.more hB)
  have HOK := Lib.hid hes
  clear hE hes
  obtain ⟨M, hMM⟩ : ∃ M, es.length = M := ⟨_, rfl⟩
  rw [hMM] at HE hM ⊢
  have HMM := Lib.hid hMM
  clear hMM
  go_enter Try.func13, Try.ntmps13
  go_wp2_with fail
  obtain ⟨w1, hw1⟩ : ∃ w1, w.alloc (.cells #[.int .i64 N, .slice E M ce] 24) = w1 := ⟨_, rfl⟩
  obtain ⟨bh, hbh⟩ : ∃ bh, w.heap.size = bh := ⟨_, rfl⟩
  have HKH : Hid (Blk w1 bh 24 #[.int .i64 N, .slice E M ce]) := by rw [← hw1]; exact Blk.new' w _ _ hbh
  have HB1 : Hid (Below w.heap.size w w1) := by rw [← hw1]; exact (Below.refl _ _).alloc (Nat.le_refl _) _
  try rw [hw1]
  try rw [hbh]
  have HBH := Lib.hid hbh
  clear hw1 hbh
  have H9 : Hid (∀ w9, Below w1.heap.size w1 w9 → w9.cell? ⟨bh, 0, none⟩ = some (.int .i64 N) ∧ w9.cell? ⟨bh, 1, none⟩ = some (.slice E M ce) ∧ Below w1.heap.size w1 w9) := fun w9 h => by
    have K := HKH.out.below h HKH.out.lt
    exact ⟨K.cell 0, K.cell 1, h⟩
  have HIN : Hid (∀ w9, Below w1.heap.size w1 w9 → Calls Try.prog 29 #[.agg #[.int .i64 N, .slice E M ce]] w9 (RetL N (IsIn es) w9)) := fun w9 h9 => by
    have hb9 : Below w.heap.size w w9 := HB1.out.trans (h9.mono HB1.out.size)
    have h := inside_any w9 N ce w.heap.size E es (by rw [HMM.out]; exact HE.out.below hb9) hb9.size HOK.out hN (by rw [HMM.out]; exact hM)
    rw [HMM.out] at h
    exact h
  have HOU : Hid (∀ (w9 : World) (g : Nat) (il : List Int), Below w1.heap.size w1 w9 → il.length = N → Blk w9 g 3 (ints il).toArray → IsIn es il → Calls Try.prog 28 #[.agg #[.int .i64 N, .slice E M ce], .slice (some ⟨g, 0, none⟩) N N, .int .i64 root] w9 (RetL N (fun l => ∃ U, Sol es U ∧ IsL il N (inC U) ∧ OSol es (inC U) root N (gi l)) w9)) := fun w9 g il h9 hl hg hi => by
    have hb9 : Below w.heap.size w w9 := HB1.out.trans (h9.mono HB1.out.size)
    have h := outside_is w9 N ce w.heap.size g E es il root (by rw [HMM.out]; exact HE.out.below hb9) hb9.size HOK.out hN hN1 (by rw [HMM.out]; exact hM) hl hg hi
    rw [HMM.out] at h
    exact h
  have B8 : Below w1.heap.size w1 w1.drew := (Below.refl _ _).drew
  have B8s : w1.heap.size ≤ w1.drew.heap.size := B8.size
  go_region_held3 (fun w9 => w9.cell? ⟨bh, 0, none⟩ = some (.int .i64 N) ∧ w9.cell? ⟨bh, 1, none⟩ = some (.slice E M ce) ∧ Below w1.heap.size w1 w9)
    (first | exact H9.out _ B8 | exact H9.out _ X5 | exact H9.out _ X7)
    (first
      | (go_at_call 29; (with_reducible refine (HIN.out _ B8).mono ?_); rintro e5 w5 ⟨g5, l5, rfl, hl5, k5, hi5, hg5, hb5⟩; have X5 : Below w1.heap.size w1 w5 := B8.trans (hb5.mono (Nat.le_refl _)); have HK5 := Lib.hid (And.intro hl5 (And.intro k5 hi5)); clear hl5 k5 hi5 hb5)
      | (go_at_call 28; (with_reducible refine (HOU.out _ _ _ X5 HK5.out.1 HK5.out.2.1 HK5.out.2.2).mono ?_); rintro e7 w7 ⟨g7, l7, rfl, hl7, k7, ho7, hg7, hb7⟩; have X7 : Below w1.heap.size w1 w7 := X5.trans (hb7.mono X5.size); have HK7 := Lib.hid (And.intro hl7 (And.intro k7 ho7)); have HG7 := Lib.hid (Nat.le_trans (Nat.le_trans HB1.out.size X5.size) hg7); clear hl7 k7 ho7 hb7 hg7))
  all_goals
    go_wp2_with fail
    go_ret
    obtain ⟨U, hs, _, ho⟩ := HK7.out.2.2
    exact ⟨g7, l7, rfl, HK7.out.1, HK7.out.2.1, ⟨U, hs, ho⟩, HG7.out, HB1.out.trans (X7.mono HB1.out.size)⟩
end Go.Proofs.Ytbalhkbpmahkgaa

namespace Go.Proofs.Ytbalhkbpmahkgaa
open Go.RowKit

set_option maxRecDepth 100000 in
set_option maxHeartbeats 4000000 in
theorem pthrough_any (w : World) (N ce B : Nat) (E : Option Addr) (es : List Ed) (root : Int) (hE : HG w B E es.length es) (hB : B ≤ w.heap.size) (hes : ∀ e ∈ es, e.Ok N) (hN : N ≤ 30) (hN1 : 1 ≤ N) (hM : es.length ≤ 60) :
    Calls Try.prog 15 #[.agg #[.int .i64 N, .slice E es.length ce], .int .i64 root] w (RetL N (IsThr es root N) w) := by
  have HE := Lib.hid (hE.more hB)
  have HOK := Lib.hid hes
  clear hE hes
  obtain ⟨M, hMM⟩ : ∃ M, es.length = M := ⟨_, rfl⟩
  rw [hMM] at HE hM ⊢
  have HMM := Lib.hid hMM
  clear hMM
  go_enter Try.func15, Try.ntmps15
  go_wp2_with fail
  obtain ⟨w1, hw1⟩ : ∃ w1, w.alloc (.cells #[.int .i64 N, .slice E M ce] 24) = w1 := ⟨_, rfl⟩
  obtain ⟨bh, hbh⟩ : ∃ bh, w.heap.size = bh := ⟨_, rfl⟩
  have HKH : Hid (Blk w1 bh 24 #[.int .i64 N, .slice E M ce]) := by rw [← hw1]; exact Blk.new' w _ _ hbh
  have HB1 : Hid (Below w.heap.size w w1) := by rw [← hw1]; exact (Below.refl _ _).alloc (Nat.le_refl _) _
  try rw [hw1]
  try rw [hbh]
  have HBH := Lib.hid hbh
  clear hw1 hbh
  have hs := inside_any w1 N ce w.heap.size E es (by rw [HMM.out]; exact HE.out.below HB1.out) HB1.out.size HOK.out hN (by rw [HMM.out]; exact hM)
  rw [HMM.out] at hs
  refine hs.mono ?_
  rintro e w2 ⟨g, il, rfl, hil, KI, hin, hg, hb2⟩
  have HI2 := Lib.hid (And.intro hil (And.intro KI hin))
  have HKH2 := Lib.hid (HKH.out.below hb2 HKH.out.lt)
  have HB2 : Hid (Below w.heap.size w w2) := HB1.out.trans (hb2.mono HB1.out.size)
  clear hs hil KI hin hg hb2 HKH HB1
  have c0 : w2.cell? ⟨bh, 0, none⟩ = some (.int .i64 N) := HKH2.out.cell 0
  have c1 : w2.cell? ⟨bh, 1, none⟩ = some (.slice E M ce) := HKH2.out.cell 1
  go_wp2_with fail
  have hs := outside_is w2 N ce w.heap.size g E es il root (by rw [HMM.out]; exact HE.out.below HB2.out) HB2.out.size HOK.out hN hN1 (by rw [HMM.out]; exact hM) HI2.out.1 HI2.out.2.1 HI2.out.2.2
  rw [HMM.out] at hs
  refine hs.mono ?_
  rintro e w3 ⟨go, ol, rfl, hol, KO, ⟨U, hsol, hIL, hO⟩, hgo, hb3⟩
  have HKI3 := Lib.hid (HI2.out.2.1.below hb3 HI2.out.2.1.lt)
  have HB3 : Hid (Below w.heap.size w w3) := HB2.out.trans (hb3.mono HB2.out.size)
  have HGG : Hid (g < go ∧ w.heap.size ≤ go) := by have h1 := HI2.out.2.1.lt; have h2 := HB2.out.size; exact ⟨by omega, by omega⟩
  have HSO := Lib.hid (And.intro hsol hO)
  have HIL := Lib.hid hIL
  obtain ⟨l, hl⟩ : ∃ l, (List.range N).map (fun i => mn (gi ol i + inC U i)) = l := ⟨_, rfl⟩
  have HLL : Hid (l.length = N ∧ ol.length = l.length) := by rw [← hl]; exact ⟨by simp, by simp [hol]⟩
  have HLA : Hid (∀ i, i < N → l[i]? = some (mn (gi ol i + inC U i))) := fun i hi => by rw [← hl, List.getElem?_map, List.getElem?_range hi]; rfl
  have HKO3 : Hid (Blk w3 go 3 (ints (over l ol 0)).toArray) := by rw [over_zero]; exact KO
  clear hs hsol hIL hO hgo hb3 KO hl c0 c1 HI2 HKH2 HB2 hol
  go_wp2_with fail
  go_loopw [16] (fun x wr => ∃ i : Nat, i ≤ N ∧ x = .int .i64 i ∧ Hid (Blk wr go 3 (ints (over l ol i)).toArray) ∧ Hid (Blk wr g 3 (ints il).toArray) ∧ Hid (Below w.heap.size w wr)) (fun x _ => N - (intOf x).toNat)
  case atStart => exact ⟨0, Nat.zero_le _, rfl, HKO3, HKI3, HB3⟩
  case round =>
    obtain ⟨i, hi, rfl, HKO, HKI, HB⟩ := hrel
    clear HKO3 HKI3 HB3
    by_cases hlt : i < N
    case neg =>
      have hltD : decide (i < N) = false := by simp [hlt]
      obtain rfl : N = i := by omega
      have HK2 : Hid (Blk wr go 3 (ints l).toArray) := by have h := HKO.out; rw [← HLL.out.1, over_end HLL.out.2] at h; exact h
      go_wp2_with fail
      go_ret
      exact ⟨go, l, rfl, HLL.out.1, HK2.out, ⟨U, gi ol, HSO.out.1, HSO.out.2, HLA.out⟩, HGG.out.2, HB.out⟩
    case pos =>
      have hltD : decide (i < N) = true := by simp [hlt]
      obtain ⟨x, hx⟩ : ∃ x, ol[i]? = some x := ⟨_, List.getElem?_eq_getElem (by have := HLL.out; omega)⟩
      have hgx : gi ol i = x := gi_at hx
      have x0 : wr.cell? ⟨go, i, none⟩ = some (.int .i64 x) := HKO.out.gint (over_at HLL.out.2 hx)
      obtain ⟨y, hy⟩ : ∃ y, inC U i = y := ⟨_, rfl⟩
      have x1 : wr.cell? ⟨g, i, none⟩ = some (.int .i64 y) := HKI.out.gint (by rw [HIL.out.2 i hlt, hy])
      have hxo : 0 ≤ x ∧ x ≤ 1099511627776 := by rw [← hgx]; exact HSO.out.2.pre.ord i
      have hyo : 0 ≤ y ∧ y ≤ 1099511627776 := by rw [← hy]; exact inC_ord HSO.out.1.nrm i
      have HXY := Lib.hid (And.intro hxo hyo)
      have hli := HLA.out i hlt
      rw [hgx, hy] at hli
      have HLI := Lib.hid hli
      obtain ⟨s, hs⟩ : ∃ s, mn (x + y) = s := ⟨_, rfl⟩
      rw [hs] at HLI
      have HSM : Hid (mn ([x, y] : List Int).sum = s) := by rw [← hs]; exact Lib.hid (by simp)
      clear hx hgx hy hxo hyo hli hs
      go_upto_region 6 with fail
      have hxa : Below wr.heap.size wr ((wr.alloc (.cells #[.int .i64 x, .int .i64 y] 3)).drew) := below_drew1 ((Below.refl _ _).alloc (Nat.le_refl _) _)
      have HKOa := Lib.hid (HKO.out.below hxa HKO.out.lt)
      have HKIa := Lib.hid (HKI.out.below hxa HKI.out.lt)
      have HBa : Hid (Below w.heap.size w ((wr.alloc (.cells #[.int .i64 x, .int .i64 y] 3)).drew)) := HB.out.trans (hxa.mono HB.out.size)
      have x0a : ((wr.alloc (.cells #[.int .i64 x, .int .i64 y] 3)).drew).cell? ⟨go, i, none⟩ = some (.int .i64 x) := (hxa.cell (World.block_lt_of_cell? wr _ x0)).trans x0
      have z0a := HKOa.out.frozen i
      have HKOf : Hid (Blk (((wr.alloc (.cells #[.int .i64 x, .int .i64 y] 3)).drew).setCell ⟨go, i, none⟩ (.int .i64 s)) go 3 (ints (over l ol (i + 1))).toArray) := by rw [← over_set HLL.out.2 HLI.out]; exact HKOa.out.set_ints i s
      have HKIf : Hid (Blk (((wr.alloc (.cells #[.int .i64 x, .int .i64 y] 3)).drew).setCell ⟨go, i, none⟩ (.int .i64 s)) g 3 (ints il).toArray) := HKIa.out.far (p := ⟨go, i, none⟩) (by have := HGG.out; show g ≠ go; omega) _
      have HBf : Hid (Below w.heap.size w (((wr.alloc (.cells #[.int .i64 x, .int .i64 y] 3)).drew).setCell ⟨go, i, none⟩ (.int .i64 s))) := HBa.out.setCell (p := ⟨go, i, none⟩) HGG.out.2 _
      have HCS : Hid (Calls Try.prog 32 #[.slice (some ⟨wr.heap.size, 0, none⟩) 2 2] ((wr.alloc (.cells #[.int .i64 x, .int .i64 y] 3)).drew) fun e' w' => e' = .returned (.int .i64 s) ∧ w' = ((wr.alloc (.cells #[.int .i64 x, .int .i64 y] 3)).drew)) := by
        have h := sum_any ((wr.alloc (.cells #[.int .i64 x, .int .i64 y] 3)).drew) (wr.heap.size + 1) 2 2 (some ⟨wr.heap.size, 0, none⟩) [x, y] ((Reads.of_blk (Blk.new' wr 3 #[.int .i64 x, .int .i64 y] rfl) (by omega) rfl rfl).drew) (by intro z hz; simp at hz; rcases hz with rfl | rfl; exact HXY.out.1; exact HXY.out.2) (by decide)
        rw [HSM.out] at h
        exact h
      clear hxa HKO HKI HB HKOa HKIa HBa HXY HSM
      simp only [ldI_eq]
      go_region_held3 (fun _ => True) (trivial)
        (first | (go_at_call 32; (with_reducible refine HCS.out.mono ?_); rintro e5 w5 ⟨rfl, rfl⟩))
      all_goals
        go_wp2_with fail
        go_roundw
        case rel => exact ⟨i + 1, by omega, by go_num, HKOf, HKIf, HBf⟩
        case measure => simp [intOf]; omega
set_option maxRecDepth 100000 in
set_option maxHeartbeats 4000000 in
theorem pedge_any (w : World) (N ce B : Nat) (E : Option Addr) (es : List Ed) (root : Int) (hE : HG w B E es.length es) (hB : B ≤ w.heap.size) (hes : ∀ e ∈ es, e.Ok N) (hN : N ≤ 30) (hN1 : 1 ≤ N) (hM : es.length ≤ 60) :
    Calls Try.prog 17 #[.agg #[.int .i64 N, .slice E es.length ce], .int .i64 root] w (RetL es.length (IsEth es root N) w) := by
  have HE := Lib.hid (hE.more hB)
  have HOK := Lib.hid hes
  clear hE hes
  obtain ⟨M, hMM⟩ : ∃ M, es.length = M := ⟨_, rfl⟩
  rw [hMM] at HE hM ⊢
  have HMM := Lib.hid hMM
  clear hMM
  have hmk := mk_ints M (by omega)
  go_enter Try.func17, Try.ntmps17
  go_wp2_with fail
  obtain ⟨w1, hw1⟩ : ∃ w1, w.alloc (.cells #[.int .i64 N, .slice E M ce] 24) = w1 := ⟨_, rfl⟩
  obtain ⟨bh, hbh⟩ : ∃ bh, w.heap.size = bh := ⟨_, rfl⟩
  have HKH : Hid (Blk w1 bh 24 #[.int .i64 N, .slice E M ce]) := by rw [← hw1]; exact Blk.new' w _ _ hbh
  have HB1 : Hid (Below w.heap.size w w1) := by rw [← hw1]; exact (Below.refl _ _).alloc (Nat.le_refl _) _
  try rw [hw1]
  try rw [hbh]
  have HBH := Lib.hid hbh
  clear hw1 hbh
  have hs := inside_any w1 N ce w.heap.size E es (by rw [HMM.out]; exact HE.out.below HB1.out) HB1.out.size HOK.out hN (by rw [HMM.out]; exact hM)
  rw [HMM.out] at hs
  refine hs.mono ?_
  rintro e w2 ⟨g, il, rfl, hil, KI, hin, hg, hb2⟩
  have HI2 := Lib.hid (And.intro hil (And.intro KI hin))
  have HKH2 := Lib.hid (HKH.out.below hb2 HKH.out.lt)
  have HB2 : Hid (Below w.heap.size w w2) := HB1.out.trans (hb2.mono HB1.out.size)
  clear hs hil KI hin hg hb2 HKH HB1
  have c0 : w2.cell? ⟨bh, 0, none⟩ = some (.int .i64 N) := HKH2.out.cell 0
  have c1 : w2.cell? ⟨bh, 1, none⟩ = some (.slice E M ce) := HKH2.out.cell 1
  go_wp2_with fail
  have hs := outside_is w2 N ce w.heap.size g E es il root (by rw [HMM.out]; exact HE.out.below HB2.out) HB2.out.size HOK.out hN hN1 (by rw [HMM.out]; exact hM) HI2.out.1 HI2.out.2.1 HI2.out.2.2
  rw [HMM.out] at hs
  refine hs.mono ?_
  rintro e w3 ⟨go, ol, rfl, hol, KO, ⟨U, hsol, hIL, hO⟩, hgo, hb3⟩
  have HKI3 := Lib.hid (HI2.out.2.1.below hb3 HI2.out.2.1.lt)
  have HB3 : Hid (Below w.heap.size w w3) := HB2.out.trans (hb3.mono HB2.out.size)
  have HGG : Hid (g < go ∧ w.heap.size ≤ go) := by have h1 := HI2.out.2.1.lt; have h2 := HB2.out.size; exact ⟨by omega, by omega⟩
  have HSO := Lib.hid (And.intro hsol hO)
  have HIL := Lib.hid hIL
  have HKH3 := Lib.hid (HKH2.out.below hb3 HKH2.out.lt)
  have HKO3 := Lib.hid KO
  have HOL := Lib.hid hol
  obtain ⟨l, hl⟩ : ∃ l, es.map (fun e => eth (inC U) (gi ol) e) = l := ⟨_, rfl⟩
  have HLL : Hid (l.length = M) := by rw [← hl]; exact Lib.hid (by simp [HMM.out])
  have HLA : Hid (∀ (k : Nat) (e : Ed), es[k]? = some e → l[k]? = some (eth (inC U) (gi ol) e)) := fun k e he => by rw [← hl, List.getElem?_map, he]; rfl
  clear hs hsol hIL hO hgo hb3 KO hl c0 c1 HKH2 HB2 HI2 hol
  have c0 : w3.cell? ⟨bh, 0, none⟩ = some (.int .i64 N) := HKH3.out.cell 0
  have c1 : w3.cell? ⟨bh, 1, none⟩ = some (.slice E M ce) := HKH3.out.cell 1
  go_upto_region 4 with fail
  obtain ⟨w4, hw4⟩ : ∃ w4, w3.alloc (.cells (ints (List.replicate M 0)).toArray 3) = w4 := ⟨_, rfl⟩
  obtain ⟨gl, hgl⟩ : ∃ gl, w3.heap.size = gl := ⟨_, rfl⟩
  have hx4 : Below w3.heap.size w3 w4 := by rw [← hw4]; exact (Below.refl _ _).alloc (Nat.le_refl _) _
  have HKG4 : Hid (Blk w4 gl 3 (ints (fill l 0)).toArray) := by rw [← hw4, fill_zero, HLL.out]; exact Blk.new' w3 _ _ hgl
  have HKI4 := Lib.hid (HKI3.out.below hx4 HKI3.out.lt)
  have HKO4 := Lib.hid (HKO3.out.below hx4 HKO3.out.lt)
  have HKH4 := Lib.hid (HKH3.out.below hx4 HKH3.out.lt)
  have HB4 : Hid (Below w.heap.size w w4) := HB3.out.trans (hx4.mono HB3.out.size)
  have HGL : Hid (g < gl ∧ go < gl ∧ bh < gl ∧ w.heap.size ≤ gl) := by rw [← hgl]; exact ⟨HKI3.out.lt, HKO3.out.lt, HKH3.out.lt, HB3.out.size⟩
  try rw [hw4]
  try rw [hgl]
  clear hw4 hgl hx4 hmk HKI3 HKO3 HKH3 HB3 c0 c1
  have c1 : w4.cell? ⟨bh, 1, none⟩ = some (.slice E M ce) := HKH4.out.cell 1
  go_wp2_with fail
  clear c1
  go_loopw [23] (fun x wr => ∃ k : Nat, k ≤ M ∧ x = .int .i64 k ∧ Hid (Blk wr gl 3 (ints (fill l k)).toArray) ∧ Hid (Blk wr go 3 (ints ol).toArray) ∧ Hid (Blk wr g 3 (ints il).toArray) ∧ Hid (Below w.heap.size w wr)) (fun x _ => M - (intOf x).toNat)
  case atStart => exact ⟨0, Nat.zero_le _, rfl, HKG4, HKO4, HKI4, HB4⟩
  case round =>
    obtain ⟨k, hk, rfl, HKG, HKO, HKI, HB⟩ := hrel
    clear HKG4 HKO4 HKI4 HB4
    by_cases hlt : k < M
    case neg =>
      have hltD : decide (k < M) = false := by simp [hlt]
      obtain rfl : M = k := by omega
      have HK2 : Hid (Blk wr gl 3 (ints l).toArray) := by have h := HKG.out; rw [← HLL.out, fill_end] at h; exact h
      go_wp2_with fail
      go_ret
      exact ⟨gl, l, rfl, HLL.out, HK2.out, ⟨U, gi ol, HSO.out.1, HSO.out.2, HLA.out⟩, HGL.out.2.2.2, HB.out⟩
    case pos =>
      have hltD : decide (k < M) = true := by simp [hlt]
      obtain ⟨b, off, e, hE', hb, he, p0, p1, p2, p3, p4, hRt⟩ := (HE.out.below HB.out).at_ hlt
      have hoke := HOK.out e (List.mem_of_getElem? he)
      have HOKE := Lib.hid hoke
      obtain ⟨v, hv⟩ := Int.eq_ofNat_of_zero_le hoke.hd.1
      have hvN : v < N := by have := hoke.hd.2; omega
      rw [hv] at p0
      obtain ⟨T, hT⟩ : ∃ T, e.ts.length = T := ⟨_, rfl⟩
      have HRT : Hid (Reads wr w.heap.size 1 e.A T (ints e.ts)) := by rw [← hT]; exact hRt
      rw [hT] at p1
      have HTT := Lib.hid hT
      have hT4 : T ≤ 4 := by rw [← hT]; exact hoke.few
      have hle := HLA.out k e he
      obtain ⟨o, ho⟩ : ∃ o, ol[v]? = some o := ⟨_, List.getElem?_eq_getElem (by have := HOL.out; omega)⟩
      obtain ⟨oo, hoo⟩ : ∃ oo, mn (oth (inC U) e.ts (-1) e.ts.length) = oo := ⟨_, rfl⟩
      obtain ⟨r, hr⟩ : ∃ r, eth (inC U) (gi ol) e = r := ⟨_, rfl⟩
      rw [hr] at hle
      have HLI := Lib.hid hle
      have hnn := oth_nn (fun i => (inC_ord HSO.out.1.nrm i).1) e.ts (-1) e.ts.length
      have HOO : Hid (0 ≤ oo ∧ oo ≤ 1099511627776) := by rw [← hoo]; exact ⟨mn_nn hnn, mn_le _⟩
      have HO1 : Hid (0 ≤ o ∧ o ≤ 1099511627776) := by rw [← gi_at ho]; exact HSO.out.2.pre.ord v
      have HSUM : Hid (mn ([o, e.cost, oo] : List Int).sum = r) := by
        have h2 := HOKE.out.cost
        have h3 := HO1.out
        rw [← hr, ← hoo]
        unfold eth
        rw [hv, Int.toNat_natCast, gi_at ho]
        unfold mn
        simp only [List.sum_cons, List.sum_nil]
        exact Lib.hid (by omega)
      have HOV := Lib.hid ho
      subst hE'
      obtain ⟨y, hy⟩ : ∃ y, (fill l k)[k]? = some y := ⟨_, List.getElem?_eq_getElem (by rw [fill_len l (by rw [HLL.out]; omega), HLL.out]; exact hlt)⟩
      have HY := Lib.hid hy
      clear hRt he hoke hv hT hle hr hnn ho hy
      go_upto_region 7 with fail
      obtain ⟨w6, hw6⟩ : ∃ w6, wr.alloc (.cells #[.int .i64 (v : Nat), .slice e.A T e.c, .int .i64 e.cost, .int .i64 e.l0, .int .i64 e.l1] 48) = w6 := ⟨_, rfl⟩
      obtain ⟨be, hbe⟩ : ∃ be, wr.heap.size = be := ⟨_, rfl⟩
      have hx6 : Below wr.heap.size wr w6 := by rw [← hw6]; exact (Below.refl _ _).alloc (Nat.le_refl _) _
      have HKE6 : Hid (Blk w6 be 48 #[.int .i64 (v : Nat), .slice e.A T e.c, .int .i64 e.cost, .int .i64 e.l0, .int .i64 e.l1]) := by rw [← hw6, ← hbe]; exact Blk.new' wr _ _ rfl
      have HKG6 := Lib.hid (HKG.out.below hx6 HKG.out.lt)
      have HKO6 := Lib.hid (HKO.out.below hx6 HKO.out.lt)
      have HKI6 := Lib.hid (HKI.out.below hx6 HKI.out.lt)
      have HB6 : Hid (Below w.heap.size w w6) := HB.out.trans (hx6.mono HB.out.size)
      have HRT6 := Lib.hid (HRT.out.below (hx6.mono HB.out.size))
      have HBE : Hid (gl < be) := by rw [← hbe]; exact HKG.out.lt
      try rw [hw6]
      try rw [hbe]
      clear hw6 hbe hx6 HKG HKO HKI HB HRT p0 p1 p2 p3 p4 hb
      have H9 : Hid (∀ w9, Touch (fun z => z = gl) w6 w9 → w9.cell? ⟨go, v, none⟩ = some (.int .i64 o) ∧ w9.cell? ⟨be, 0, none⟩ = some (.int .i64 (v : Nat)) ∧ w9.cell? ⟨be, 1, none⟩ = some (.slice e.A T e.c) ∧ w9.cell? ⟨be, 2, none⟩ = some (.int .i64 e.cost) ∧ w9.cell? ⟨be, 3, none⟩ = some (.int .i64 e.l0) ∧ w9.cell? ⟨be, 4, none⟩ = some (.int .i64 e.l1)) := fun w9 h => by
        have Ka := HKO6.out.touch h (by have := HGL.out; omega)
        have Kb := HKE6.out.touch h (by have := HBE.out; omega)
        exact ⟨Ka.gint HOV.out, Kb.cell 0, Kb.cell 1, Kb.cell 2, Kb.cell 3, Kb.cell 4⟩
      have HCO : Hid (∀ w9, Below w6.heap.size w6 w9 → Calls Try.prog 33 #[.agg #[.int .i64 (v : Nat), .slice e.A T e.c, .int .i64 e.cost, .int .i64 e.l0, .int .i64 e.l1], .slice (some ⟨g, 0, none⟩) N N, .int .i64 (-1)] w9 fun e' w' => e' = .returned (.int .i64 oo) ∧ Below w9.heap.size w9 w') := fun w9 h9 => by
        have hb9 : Below w.heap.size w w9 := HB6.out.trans (h9.mono HB6.out.size)
        have KI9 := HKI6.out.below h9 HKI6.out.lt
        have h := others_any w9 w9.heap.size N N (some ⟨g, 0, none⟩) il (inC U) (v : Nat) e.cost e.l0 e.l1 e.A e.c e.ts (-1) (Reads.of_blk KI9 KI9.lt (by simp) (by simp [ints, HIL.out.1])) HIL.out (fun i => inC_ord HSO.out.1.nrm i) (by rw [HTT.out]; exact (HRT6.out.below (h9.mono HB6.out.size)).more hb9.size) (Nat.le_refl _) HOKE.out.ts (by have := HTT.out; omega)
        rw [hoo, HTT.out] at h
        exact h
      have B8 : Below w6.heap.size w6 w6.drew := (Below.refl _ _).drew
      have T8 : Touch (fun z => z = gl) w6 w6.drew := Touch.of_below B8
      go_region_held3 (fun w9 => w9.cell? ⟨go, v, none⟩ = some (.int .i64 o) ∧ w9.cell? ⟨be, 0, none⟩ = some (.int .i64 (v : Nat)) ∧ w9.cell? ⟨be, 1, none⟩ = some (.slice e.A T e.c) ∧ w9.cell? ⟨be, 2, none⟩ = some (.int .i64 e.cost) ∧ w9.cell? ⟨be, 3, none⟩ = some (.int .i64 e.l0) ∧ w9.cell? ⟨be, 4, none⟩ = some (.int .i64 e.l1))
        (first | exact H9.out _ T8 | exact H9.out _ T5 | exact H9.out _ (T5.alloc _) | exact H9.out _ ((T5.alloc _).setCell (.inl rfl) _))
        (first
          | (go_at_call 33; (with_reducible refine (HCO.out _ B8).mono ?_); rintro e5 w5 ⟨rfl, hb5⟩; have X5 : Below w6.heap.size w6 w5 := B8.trans (hb5.mono (Nat.le_refl _)); have T5 : Touch (fun z => z = gl) w6 w5 := Touch.of_below X5; clear hb5)
          | (go_at_call 32; refine (sum_any (w5.alloc (.cells #[.int .i64 o, .int .i64 e.cost, .int .i64 oo] 3)) (w5.heap.size + 1) 3 3 (some ⟨w5.heap.size, 0, none⟩) [o, e.cost, oo] (Reads.of_blk (Blk.new' w5 _ _ rfl) (by omega) rfl rfl) (by intro x hx; simp at hx; rcases hx with rfl | rfl | rfl; exact HO1.out; exact HOKE.out.cost; exact HOO.out) (by decide)).mono ?_; rintro e7 w7 ⟨rfl, rfl⟩; rw [HSUM.out]; have KG7 := (HKG6.out.below X5 HKG6.out.lt).alloc (.cells #[.int .i64 o, .int .i64 e.cost, .int .i64 oo] 3); have g0 := KG7.gint HY.out; have g1 := KG7.frozen k))
      all_goals
        have HKGf : Hid (Blk ((w5.alloc (.cells #[.int .i64 o, .int .i64 e.cost, .int .i64 oo] 3)).setCell ⟨gl, k, none⟩ (.int .i64 r)) gl 3 (ints (fill l (k + 1))).toArray) := by rw [← fill_set HLI.out]; exact KG7.set_ints k r
        have HKOf : Hid (Blk ((w5.alloc (.cells #[.int .i64 o, .int .i64 e.cost, .int .i64 oo] 3)).setCell ⟨gl, k, none⟩ (.int .i64 r)) go 3 (ints ol).toArray) := (((HKO6.out.below X5 HKO6.out.lt).alloc _).far (p := ⟨gl, k, none⟩) (by have := HGL.out; show go ≠ gl; omega) _)
        have HKIf : Hid (Blk ((w5.alloc (.cells #[.int .i64 o, .int .i64 e.cost, .int .i64 oo] 3)).setCell ⟨gl, k, none⟩ (.int .i64 r)) g 3 (ints il).toArray) := (((HKI6.out.below X5 HKI6.out.lt).alloc _).far (p := ⟨gl, k, none⟩) (by have := HGL.out; show g ≠ gl; omega) _)
        have HBf : Hid (Below w.heap.size w ((w5.alloc (.cells #[.int .i64 o, .int .i64 e.cost, .int .i64 oo] 3)).setCell ⟨gl, k, none⟩ (.int .i64 r))) := ((HB6.out.trans (X5.mono HB6.out.size)).alloc (Nat.le_trans HB6.out.size X5.size) _).setCell (p := ⟨gl, k, none⟩) HGL.out.2.2.2 _
        go_wp2_with fail
        go_roundw
        case rel => exact ⟨k + 1, by omega, by go_num, HKGf, HKOf, HKIf, HBf⟩
        case measure => simp [intOf]; omega
end Go.Proofs.Ytbalhkbpmahkgaa

namespace Go.Proofs.Ytbalhkbpmahkgaa
open Go.RowKit

theorem plus_any (a b : Int) (ha : 0 ≤ a ∧ a ≤ 1099511627776) (hb : 0 ≤ b ∧ b ≤ 1099511627776) (w : World) : Calls Try.prog 31 #[.int .i64 a, .int .i64 b] w fun e w' => e = .returned (.int .i64 (mn (a + b))) ∧ w' = w := by
  have hw : IntKind.i64.wrap (a + b) = a + b := IntWalk.i64_in _ (by omega)
  go_enter Try.func31, Try.ntmps31
  go_wp2_with fail
  go_ret
  exact ⟨rfl, rfl⟩
set_option maxRecDepth 100000 in
set_option maxHeartbeats 4000000 in
theorem rinside_any (w : World) (N ce B : Nat) (E : Option Addr) (es : List Ed) (hE : HG w B E es.length es) (hB : B ≤ w.heap.size) (hes : ∀ e ∈ es, e.Ok N) (hN : N ≤ 30) (hM : es.length ≤ 60) :
    Calls Try.prog 30 #[.agg #[.int .i64 N, .slice E es.length ce]] w (RetL N (IsIn es) w) := by
  have HE := Lib.hid (hE.more hB)
  have HOK := Lib.hid hes
  clear hE hes
  obtain ⟨M, hMM⟩ : ∃ M, es.length = M := ⟨_, rfl⟩
  rw [hMM] at HE hM ⊢
  have HMM := Lib.hid hMM
  clear hMM
  have hmk := mk_ints N (by omega)
  go_enter Try.func30, Try.ntmps30
  go_wp2_with fail
  obtain ⟨w1, hw1⟩ : ∃ w1, w.alloc (.cells #[.int .i64 N, .slice E M ce] 24) = w1 := ⟨_, rfl⟩
  rw [hw1]
  have HB1 : Hid (Below w.heap.size w w1) := by rw [← hw1]; exact (Below.refl _ _).alloc (Nat.le_refl _) _
  clear hw1
  have hs := rsolve_any w1 N ce w.heap.size E es (by rw [HMM.out]; exact HE.out.below HB1.out) HB1.out.size HOK.out hN (by rw [HMM.out]; exact hM)
  rw [HMM.out] at hs
  refine hs.mono ?_
  rintro e w2 ⟨va, ea, V, rfl, hVl, KV, _, hsol, _, _, hbw⟩
  have HV2 := Lib.hid KV
  have HS := Lib.hid (And.intro hsol hVl)
  have HB2 : Hid (Below w.heap.size w w2) := HB1.out.trans (hbw.mono HB1.out.size)
  clear hs hsol hVl KV hbw HB1
  go_upto_region 3 with fail
  obtain ⟨w3, hw3⟩ : ∃ w3, w2.alloc (.cells (ints (List.replicate N 0)).toArray 3) = w3 := ⟨_, rfl⟩
  rw [hw3]
  obtain ⟨g, hg⟩ : ∃ g, w2.heap.size = g := ⟨_, rfl⟩
  obtain ⟨l, hl⟩ : ∃ l, V.map Vl.c = l := ⟨_, rfl⟩
  have hll : l.length = N := by rw [← hl]; simp [HS.out.2]
  have HLL := Lib.hid hll
  have HKG : Hid (Blk w3 g 3 (ints (fill l 0)).toArray) := by rw [← hw3, fill_zero, hll]; exact Blk.new' w2 _ _ hg
  have hx3 : Below w2.heap.size w2 w3 := by rw [← hw3]; exact (Below.refl _ _).alloc (Nat.le_refl _) _
  have HV3 := Lib.hid (HV2.out.below hx3 HV2.out.lt)
  have HB3 : Hid (Below w.heap.size w w3) := HB2.out.trans (hx3.mono HB2.out.size)
  have HG : Hid (w.heap.size ≤ g ∧ va < g) := by rw [← hg]; exact ⟨HB2.out.size, HV2.out.lt⟩
  have HIN : Hid (IsIn es l) := ⟨V, HS.out.1, hl.symm⟩
  have HL := Lib.hid hl
  try rw [hg]
  clear hw3 hg hx3 hmk HV2 HB2 hll hl
  go_wp2_with fail
  go_loopw [6] (fun x wr => ∃ i : Nat, i ≤ N ∧ x = .int .i64 i ∧ Hid (Blk wr g 3 (ints (fill l i)).toArray) ∧ Hid (Blk wr va 38 (vls V).toArray) ∧ Hid (Below w.heap.size w wr)) (fun x _ => N - (intOf x).toNat)
  case atStart => exact ⟨0, Nat.zero_le _, rfl, HKG, HV3, HB3⟩
  case round =>
    obtain ⟨i, hi, rfl, HK, HV, HB⟩ := hrel
    clear HKG HV3 HB3
    by_cases hlt : i < N
    case neg =>
      have hltD : decide (i < N) = false := by simp [hlt]
      obtain rfl : N = i := by omega
      have HK2 : Hid (Blk wr g 3 (ints l).toArray) := by have := HK.out; rw [← HLL.out, fill_end] at this; exact this
      go_wp2_with fail
      go_ret
      exact ⟨g, l, rfl, HLL.out, HK2.out, HIN.out, HG.out.1, HB.out⟩
    case pos =>
      have hltD : decide (i < N) = true := by simp [hlt]
      obtain ⟨v, hv⟩ : ∃ v, V[i]? = some v := ⟨_, List.getElem?_eq_getElem (by have := HS.out.2; omega)⟩
      obtain ⟨v0, v1⟩ := HV.out.vl_at hv
      have hli : l[i]? = some v.c := by rw [← HL.out, List.getElem?_map, hv]; rfl
      obtain ⟨y, hy⟩ : ∃ y, (fill l i)[i]? = some y := ⟨_, List.getElem?_eq_getElem (by rw [fill_len l (by rw [HLL.out]; omega), HLL.out]; exact hlt)⟩
      have HLI := Lib.hid hli
      have hgn : g ≠ va := by have := HG.out; omega
      have x0 := HK.out.gint hy
      have y0 := HK.out.frozen i
      have HKf := Lib.hid (HK.out.set_ints i v.c)
      rw [fill_set HLI.out] at HKf
      have HVf : Hid (Blk (wr.setCell ⟨g, i, none⟩ (.int .i64 v.c)) va 38 (vls V).toArray) := HV.out.far (p := ⟨g, i, none⟩) (fun e => hgn e.symm) _
      have HBf : Hid (Below w.heap.size w (wr.setCell ⟨g, i, none⟩ (.int .i64 v.c))) := HB.out.setCell (p := ⟨g, i, none⟩) HG.out.1 _
      clear hv hli hy
      go_wp2_with fail
      go_roundw
      case rel => exact ⟨i + 1, by omega, by go_num, HKf, HVf, HBf⟩
      case measure => simp [intOf]; omega
end Go.Proofs.Ytbalhkbpmahkgaa

namespace Go.Proofs.Ytbalhkbpmahkgaa
open Go.RowKit

structure OI (es : List Ed) (I : Nat → Int) (root : Int) (N : Nat) (out : List Int) : Prop where
  len : out.length = N
  ord : ∀ i, 0 ≤ gi out i ∧ gi out i ≤ 1099511627776
  rt : ∀ i, i < N → (i : Int) = root → gi out i = 0
  top : ∀ G, OPre es I root N G → ∀ i, G i ≤ gi out i
/-- The inequality of a tail. -/
def Ih (I : Nat → Int) (out : List Int) (e : Ed) (k : Nat) : Prop := ∀ t, e.ts[k]? = some t → gi out t.toNat ≤ rlx I (gi out) e k
def OPassE (b : Bool) (es : List Ed) (I : Nat → Int) (out : List Int) : Prop := b = false → ∀ e ∈ es, ∀ k, Ih I out e k
def OPassS (b : Bool) (es : List Ed) (I : Nat → Int) (o out : List Int) (n : Nat) : Prop := (b = true → sumO out < sumO o) ∧ (b = false → out = o ∧ ∀ i e, i < n → es[i]? = some e → ∀ k, Ih I out e k)
def OPassT (b : Bool) (es : List Ed) (I : Nat → Int) (o out : List Int) (n : Nat) (e : Ed) (m : Nat) : Prop := (b = true → sumO out < sumO o) ∧ (b = false → out = o ∧ (∀ i e, i < n → es[i]? = some e → ∀ k, Ih I out e k) ∧ ∀ k, k < m → Ih I out e k)
section
variable {es : List Ed} {I : Nat → Int} {root : Int} {N : Nat} {out o : List Int} {b : Bool}
theorem OI.start {r : Nat} (hr : r < N) (hI : ∀ i, 0 ≤ I i) (hc : ∀ e ∈ es, 0 ≤ e.cost) : OI es I r N ((List.replicate N 1099511627776).set r 0) := by
  have h := OInv.start (es := es) (I := I) hr hI hc ⟨0, (r : Int), 0, 0⟩ rfl rfl
  exact ⟨h.len, h.ord, h.rt, h.top⟩
theorem OI.done (h : OI es I root N out) (hp : OPassE false es I out) : OSol es I root N (gi out) :=
  ⟨⟨h.ord, h.rt, fun e he k t hk => hp rfl e he k t hk⟩, fun i hi => gi_out (by rw [h.len]; exact hi), h.top⟩
theorem OI.lower (h : OI es I root N out) (hI : ∀ i, 0 ≤ I i) {e : Ed} (he : e ∈ es) (h0 : 0 ≤ e.cost) {k t : Nat} (hk : e.ts[k]? = some (t : Int)) (ht : t < N) (hlt : rlx I (gi out) e k < gi out t) : OI es I root N (out.set t (rlx I (gi out) e k)) := by
  have hset := gi_set (l := out) (t := t) (by rw [h.len]; exact ht) (rlx I (gi out) e k)
  have hr0 : 0 ≤ rlx I (gi out) e k := by
    have := (h.ord e.hd.toNat).1
    have := oth_nn hI e.ts k e.ts.length
    exact mn_nn (by omega)
  have hr1 : rlx I (gi out) e k ≤ 1099511627776 := mn_le _
  refine ⟨by rw [List.length_set]; exact h.len, fun i => ?_, fun i hi hr => ?_, fun G hG i => ?_⟩
  · have := h.ord i
    rw [hset]
    split <;> omega
  · have h3 := h.rt i hi hr
    rw [hset]
    by_cases hi' : t = i
    · subst hi'; omega
    · rw [if_neg hi']; exact h3
  · rw [hset]
    by_cases hi' : t = i
    · subst hi'
      rw [if_pos rfl]
      have h3 := hG.le e he k t hk
      rw [Int.toNat_natCast] at h3
      refine Int.le_trans h3 ?_
      unfold rlx
      apply mn_mono
      have := h.top G hG e.hd.toNat
      omega
    · rw [if_neg hi']; exact h.top G hG i
theorem OPassS.start (es : List Ed) (I : Nat → Int) (o : List Int) : OPassS false es I o o 0 := ⟨fun h => by simp at h, fun _ => ⟨rfl, fun i e hi => absurd hi (Nat.not_lt_zero _)⟩⟩
theorem OPassS.done (h : OPassS b es I o out es.length) : OPassE b es I out := fun hb e he k => by
  obtain ⟨i, hi⟩ := List.getElem?_of_mem he
  exact (h.2 hb).2 i e (List.getElem?_eq_some_iff.1 hi).1 hi k
theorem OPassT.start {n : Nat} (h : OPassS b es I o out n) (e : Ed) : OPassT b es I o out n e 0 := ⟨h.1, fun hb => ⟨(h.2 hb).1, (h.2 hb).2, fun k hk => absurd hk (Nat.not_lt_zero _)⟩⟩
theorem OPassT.done {n : Nat} {e : Ed} (h : OPassT b es I o out n e e.ts.length) (he : es[n]? = some e) : OPassS b es I o out (n + 1) := ⟨h.1, fun hb => ⟨(h.2 hb).1, fun i e' hi he' k => by
  by_cases hin : i = n
  · subst hin
    rw [he] at he'
    injection he' with he'
    subst he'
    intro t ht
    exact (h.2 hb).2.2 k (List.getElem?_eq_some_iff.1 ht).1 t ht
  · exact (h.2 hb).2.1 i e' (by omega) he' k⟩⟩
theorem OPassT.skip {n m : Nat} {e : Ed} (h : OPassT b es I o out n e m) {t : Nat} (ht : e.ts[m]? = some (t : Int)) (hle : gi out t ≤ rlx I (gi out) e m) : OPassT b es I o out n e (m + 1) := ⟨h.1, fun hb => ⟨(h.2 hb).1, (h.2 hb).2.1, fun k hk => by
  by_cases hkm : k = m
  · subst hkm
    intro t' ht'
    rw [ht] at ht'
    injection ht' with ht'
    subst ht'
    rw [Int.toNat_natCast]
    exact hle
  · exact (h.2 hb).2.2 k (by omega)⟩⟩
theorem OPassT.low {n m t : Nat} {e : Ed} {x r : Int} (h : OPassT b es I o out n e m) (hx : out[t]? = some x) (h0 : 0 ≤ r) (hr : r < x) : OPassT true es I o (out.set t r) n e (m + 1) := ⟨fun _ => by
  have := sumO_set (y := r) hx
  have h2 : r.toNat < x.toNat := by omega
  cases b with
  | true => have := h.1 rfl; omega
  | false => have := (h.2 rfl).1; subst this; omega, fun hb => by simp at hb⟩
end
/-- The reference's search in memory. -/
structure RM (w wr : World) (bh g go N M ce : Nat) (E : Option Addr) (il out : List Int) : Prop where
  kH : Blk wr bh 24 #[.int .i64 N, .slice E M ce]
  kI : Blk wr g 3 (ints il).toArray
  kO : Blk wr go 3 (ints out).toArray
  low : Below w.heap.size w wr
  lt : g < go ∧ w.heap.size ≤ go
section
variable {w wr w1 : World} {bh g go N M ce : Nat} {E : Option Addr} {il out : List Int}
theorem RM.below (h : RM w wr bh g go N M ce E il out) (hb : Below wr.heap.size wr w1) : RM w w1 bh g go N M ce E il out :=
  ⟨h.kH.below hb h.kH.lt, h.kI.below hb h.kI.lt, h.kO.below hb h.kO.lt, h.low.trans (hb.mono h.low.size), h.lt⟩
theorem RM.put (h : RM w wr bh g go N M ce E il out) (t : Nat) (x : Int) : RM w (wr.setCell ⟨go, t, none⟩ (.int .i64 x)) bh g go N M ce E il (out.set t x) :=
  ⟨h.kH.far (p := ⟨go, t, none⟩) (Blk.ne_ h.kH h.kO (by decide)) _, h.kI.far (p := ⟨go, t, none⟩) (by have := h.lt.1; show g ≠ go; omega) _, h.kO.set_ints t x, h.low.setCell (p := ⟨go, t, none⟩) h.lt.2 _, h.lt⟩
end
def measR (wr : World) (go : Nat) (x : Value) : Nat := 2 * sumB wr go + (match x with | .bool true => 1 | _ => 0)
theorem sumB_eq {w wr : World} {bh g go N M ce : Nat} {E : Option Addr} {il out : List Int} (h : RM w wr bh g go N M ce E il out) : sumB wr go = sumO out := by
  have hO := h.kO
  unfold Blk at hO
  unfold sumB sumO
  rw [hO]
  simp only [ints, List.map_map]
  rfl
theorem plus_b {a b r : Int} (ha : 0 ≤ a ∧ a ≤ 1099511627776) (hb : 0 ≤ b ∧ b ≤ 1099511627776) (hr : mn (a + b) = r) : Hid (∀ w, Calls Try.prog 31 #[.int .i64 a, .int .i64 b] w fun e w' => e = .returned (.int .i64 r) ∧ Below w.heap.size w w') := fun w =>
  (plus_any a b ha hb w).mono fun e w' ⟨h1, h2⟩ => ⟨by rw [h1, hr], h2 ▸ Below.refl _ _⟩
end Go.Proofs.Ytbalhkbpmahkgaa

namespace Go.Proofs.Ytbalhkbpmahkgaa
open Go.RowKit

set_option maxRecDepth 100000 in
set_option maxHeartbeats 8000000 in
theorem routside_any (w : World) (N ce B : Nat) (E : Option Addr) (es : List Ed) (root : Int) (hE : HG w B E es.length es) (hB : B ≤ w.heap.size) (hes : ∀ e ∈ es, e.Ok N) (hN : N ≤ 30) (hN1 : 1 ≤ N) (hM : es.length ≤ 60) :
    Calls Try.prog 14 #[.agg #[.int .i64 N, .slice E es.length ce], .int .i64 root] w (RetL N (IsOut es root N) w) := by
  have HE := Lib.hid (hE.more hB)
  have HOK := Lib.hid hes
  clear hE hes
  obtain ⟨M, hMM⟩ : ∃ M, es.length = M := ⟨_, rfl⟩
  rw [hMM] at HE hM ⊢
  have HMM := Lib.hid hMM
  clear hMM
  have hmk := mk_ints N (by omega)
  go_enter Try.func14, Try.ntmps14
  go_wp2_with fail
  obtain ⟨w1, hw1⟩ : ∃ w1, w.alloc (.cells #[.int .i64 N, .slice E M ce] 24) = w1 := ⟨_, rfl⟩
  obtain ⟨bh, hbh⟩ : ∃ bh, w.heap.size = bh := ⟨_, rfl⟩
  have HKH : Hid (Blk w1 bh 24 #[.int .i64 N, .slice E M ce]) := by rw [← hw1]; exact Blk.new' w _ _ hbh
  have HB1 : Hid (Below w.heap.size w w1) := by rw [← hw1]; exact (Below.refl _ _).alloc (Nat.le_refl _) _
  try rw [hw1]
  try rw [hbh]
  have HBH := Lib.hid hbh
  clear hw1 hbh
  have hs := rinside_any w1 N ce w.heap.size E es (by rw [HMM.out]; exact HE.out.below HB1.out) HB1.out.size HOK.out hN (by rw [HMM.out]; exact hM)
  rw [HMM.out] at hs
  refine hs.mono ?_
  rintro e w2 ⟨g, il, rfl, hil, KI, hin, hg, hb2⟩
  obtain ⟨U, hsol, hIL⟩ := hin.isL hil
  have HIL := Lib.hid hIL
  have HSO := Lib.hid hsol
  have HKI2 := Lib.hid KI
  have HKH2 := Lib.hid (HKH.out.below hb2 HKH.out.lt)
  have HB2 : Hid (Below w.heap.size w w2) := HB1.out.trans (hb2.mono HB1.out.size)
  clear hs hil KI hin hg hb2 HKH HB1 hsol hIL
  have c0 : w2.cell? ⟨bh, 0, none⟩ = some (.int .i64 N) := HKH2.out.cell 0
  go_upto_region 3 with fail
  obtain ⟨w3, hw3⟩ : ∃ w3, w2.alloc (.cells (ints (List.replicate N 0)).toArray 3) = w3 := ⟨_, rfl⟩
  obtain ⟨go, hgo⟩ : ∃ go, w2.heap.size = go := ⟨_, rfl⟩
  have HRM3 : Hid (RM w w3 bh g go N M ce E il (inff N 0)) := by
    have hx3 : Below w2.heap.size w2 w3 := by rw [← hw3]; exact (Below.refl _ _).alloc (Nat.le_refl _) _
    refine ⟨HKH2.out.below hx3 HKH2.out.lt, HKI2.out.below hx3 HKI2.out.lt, ?_, HB2.out.trans (hx3.mono HB2.out.size), ?_⟩
    · have : inff N 0 = List.replicate N 0 := by simp [inff]
      rw [this, ← hw3]
      exact Blk.new' w2 _ _ hgo
    · rw [← hgo]; exact ⟨HKI2.out.lt, HB2.out.size⟩
  try rw [hw3]
  try rw [hgo]
  clear hw3 hgo hmk HKH2 HKI2 HB2 c0
  go_wp2_with fail
  go_loopw [7] (fun x wr => ∃ i : Nat, i ≤ N ∧ x = .int .i64 i ∧ Hid (RM w wr bh g go N M ce E il (inff N i))) (fun x _ => N - (intOf x).toNat)
  case atStart => exact ⟨0, Nat.zero_le _, rfl, HRM3⟩
  case round =>
    obtain ⟨i, hi, rfl, HR⟩ := hrel
    clear HRM3
    have c0 : wr.cell? ⟨bh, 0, none⟩ = some (.int .i64 N) := HR.out.kH.cell 0
    by_cases hlt : i < N
    case pos =>
      have hltD : decide (i < N) = true := by simp [hlt]
      obtain ⟨y, hy⟩ : ∃ y, (inff N i)[i]? = some y := ⟨_, List.getElem?_eq_getElem (by rw [inff_len hi]; exact hlt)⟩
      have x0 := HR.out.kO.gint hy
      have y0 := HR.out.kO.frozen i
      have hset : (inff N i).set i 1099511627776 = inff N (i + 1) := ini_set hlt
      have HR2 := Lib.hid (HR.out.put i 1099511627776)
      rw [hset] at HR2
      clear hy hset
      go_wp2_with fail
      go_roundw
      case rel => exact ⟨i + 1, by omega, by go_num, HR2⟩
      case measure => simp [intOf]; omega
    case neg =>
      have hltD : decide (i < N) = false := by simp [hlt]
      obtain rfl : N = i := by omega
      have he : inff N N = List.replicate N 1099511627776 := by simp [inff]
      rw [he] at HR
      have HNO : Hid ((∀ i : Nat, i < N → (i : Int) ≠ root) → RetL N (IsOut es root N) w (.returned (.slice (some ⟨go, 0, none⟩) N N)) wr) := fun hr =>
        ⟨go, List.replicate N 1099511627776, rfl, by simp, HR.out.kO, ⟨U, HSO.out, OSol.none hr (fun i => (inC_ord HSO.out.nrm i).1) (fun e he => (HOK.out e he).cost.1) (gi_rep N)⟩, HR.out.lt.2, HR.out.low⟩
      clear he hlt hi
      go_upto_region 7 with fail
      rcases root_ways N root with h1 | ⟨h1, h2⟩ | ⟨r, rfl, hr⟩
      case inl =>
        have HRR := Lib.hid (HNO.out (fun i _ h => by simp at h1; omega))
        clear HNO
        go_wp2_with fail
        go_ret
        exact HRR.out
      case inr.inl =>
        have HRR := Lib.hid (HNO.out (fun i hi h => by simp at h2; omega))
        clear HNO
        go_wp2_with fail
        go_ret
        exact HRR.out
      have h1 : decide ((r : Int) < 0) = false := by simp
      have h2 : decide ((N : Int) ≤ (r : Int)) = false := by simp; omega
      have h2' : decide (N ≤ r) = false := by simp; omega
      have HRN := Lib.hid hr
      have x0 := HR.out.kO.gint (k := r) (x := 1099511627776) (by rw [List.getElem?_replicate, if_pos hr])
      have y0 := HR.out.kO.frozen r
      have HR2 := Lib.hid (HR.out.put r 0)
      have HOI2 : Hid (OI es (inC U) r N ((List.replicate N 1099511627776).set r 0)) := OI.start hr (fun i => (inC_ord HSO.out.nrm i).1) (fun e he => (HOK.out e he).cost.1)
      have HPE2 : Hid (OPassE true es (inC U) ((List.replicate N 1099511627776).set r 0)) := fun h => by simp at h
      clear HNO hr
      go_wp2_with fail
      clear h1 h2 h2' c0 x0 y0 HR
      go_loopw [8] (fun x wr => ∃ (out : List Int) (b : Bool), x = .bool b ∧ Hid (RM w wr bh g go N M ce E il out) ∧ Hid (OI es (inC U) r N out) ∧ Hid (OPassE b es (inC U) out)) (fun x wr => measR wr go x)
      case atStart => exact ⟨_, true, rfl, HR2, HOI2, HPE2⟩
      case round =>
        obtain ⟨out0, b, rfl, HRM, HOI, HPE⟩ := hrel
        clear HR2 HOI2 HPE2
        have HS0 := Lib.hid (sumB_eq HRM.out)
        cases b with
        | false => as_aux_lemma =>
          go_wp2_with fail
          go_ret
          exact ⟨go, out0, rfl, HOI.out.len, HRM.out.kO, ⟨U, HSO.out, HOI.out.done HPE.out⟩, HRM.out.lt.2, HRM.out.low⟩
        | true => as_aux_lemma =>
          have HPS : Hid (OPassS false es (inC U) out0 out0 0) := OPassS.start es (inC U) out0
          rename World => wh
          go_wp2_with fail
          go_loopw [8, 9] (fun x y wr => ∃ (k : Nat) (out : List Int) (b : Bool), k ≤ M ∧ y = .int .i64 k ∧ x = .bool b ∧ Hid (RM w wr bh g go N M ce E il out) ∧ Hid (OI es (inC U) r N out) ∧ Hid (OPassS b es (inC U) out0 out k)) (fun _ y _ => M - (intOf y).toNat)
          case atStart => exact ⟨0, out0, false, Nat.zero_le _, rfl, rfl, HRM, HOI, HPS⟩
          case round =>
            obtain ⟨k, out, b, hk, rfl, rfl, HR, HO, HP⟩ := hrel
            clear HPS HPE
            have c1 : wr.cell? ⟨bh, 1, none⟩ = some (.slice E M ce) := HR.out.kH.cell 1
            by_cases hlk : k < M
            case neg =>
              have hlkD : decide (k < M) = false := by simp [hlk]
              obtain rfl : M = k := by omega
              have HPE2 : Hid (OPassE b es (inC U) out) := OPassS.done (by have h := HP.out; rw [← HMM.out] at h; exact h)
              go_wp2_with fail
              go_roundw
              case rel => exact ⟨out, b, rfl, HR, HO, HPE2⟩
              case measure =>
                have h1 := sumB_eq HR.out
                have h2 := HS0.out
                have h3 := HP.out
                unfold measR
                cases b with
                | true =>
                  have h4 := h3.1 rfl
                  simp only
                  omega
                | false =>
                  have h4 := (h3.2 rfl).1
                  rw [h4] at h1
                  simp only
                  omega
            case pos => as_aux_lemma =>
              have hlkD : decide (k < M) = true := by simp [hlk]
              obtain ⟨b', off, e, hE', hb', he, p0, p1, p2, p3, p4, hRt⟩ := (HE.out.below HR.out.low).at_ hlk
              have hoke := HOK.out e (List.mem_of_getElem? he)
              have HOKE := Lib.hid hoke
              have HEk := Lib.hid he
              obtain ⟨v, hv⟩ := Int.eq_ofNat_of_zero_le hoke.hd.1
              have hvN : v < N := by have := hoke.hd.2; omega
              rw [hv] at p0
              have HHD : Hid (e.hd.toNat = v) := by rw [hv]; exact Lib.hid (Int.toNat_natCast v)
              obtain ⟨T, hT⟩ : ∃ T, e.ts.length = T := ⟨_, rfl⟩
              obtain ⟨eA, heA⟩ : ∃ eA, e.A = eA := ⟨_, rfl⟩
              rw [hT, heA] at p1
              have HRT : Hid (Reads w w.heap.size 1 eA T (ints e.ts)) := by
                rw [← hT, ← heA]
                exact HE.out.2 e (List.mem_of_getElem? he)
              have HTT := Lib.hid hT
              have hT4 : T ≤ 4 := by rw [← hT]; exact hoke.few
              rw [hE'] at c1
              clear hRt he hoke hv hT heA hE'
              go_upto_region 17 with fail
              obtain ⟨w6, hw6⟩ : ∃ w6, wr.alloc (.cells #[.int .i64 (v : Nat), .slice eA T e.c, .int .i64 e.cost, .int .i64 e.l0, .int .i64 e.l1] 48) = w6 := ⟨_, rfl⟩
              obtain ⟨be, hbe⟩ : ∃ be, wr.heap.size = be := ⟨_, rfl⟩
              have hx6 : Below wr.heap.size wr w6 := by rw [← hw6]; exact (Below.refl _ _).alloc (Nat.le_refl _) _
              have HKE6 : Hid (Blk w6 be 48 #[.int .i64 (v : Nat), .slice eA T e.c, .int .i64 e.cost, .int .i64 e.l0, .int .i64 e.l1]) := by rw [← hw6, ← hbe]; exact Blk.new' wr _ _ rfl
              have HR6 := Lib.hid (HR.out.below hx6)
              have HP6 : Hid (OPassT b es (inC U) out0 out k e 0) := OPassT.start HP.out e
              try rw [hw6]
              try rw [hbe]
              clear hw6 hbe hx6 HR HP c1 p0 p1 p2 p3 p4 hb'
              go_wp2_with fail
              go_loopw [8, 11] (fun x y wr => ∃ (n : Nat) (out : List Int) (b : Bool), n ≤ T ∧ y = .int .i64 n ∧ x = .bool b ∧ Hid (RM w wr bh g go N M ce E il out) ∧ Hid (OI es (inC U) r N out) ∧ Hid (OPassT b es (inC U) out0 out k e n) ∧ Hid (Blk wr be 48 #[.int .i64 (v : Nat), .slice eA T e.c, .int .i64 e.cost, .int .i64 e.l0, .int .i64 e.l1])) (fun _ y _ => T - (intOf y).toNat)
              case atStart => exact ⟨0, out, b, Nat.zero_le _, rfl, rfl, HR6, HO, HP6, HKE6⟩
              case round =>
                obtain ⟨n, out, b, hn, rfl, rfl, HR, HO, HP, HKE⟩ := hrel
                clear HR6 HP6 HKE6
                have e1 : wr.cell? ⟨be, 1, none⟩ = some (.slice eA T e.c) := HKE.out.cell 1
                by_cases hln : n < T
                case neg => as_aux_lemma =>
                  have hlnD : decide (n < T) = false := by simp [hln]
                  obtain rfl : T = n := by omega
                  have HP7 : Hid (OPassS b es (inC U) out0 out (k + 1)) := OPassT.done (by rw [HTT.out]; exact HP.out) HEk.out
                  go_wp2_with fail
                  go_roundw
                  case rel => exact ⟨k + 1, out, b, by omega, by go_num, rfl, HR, HO, HP7⟩
                  case measure => simp [intOf]; omega
                case pos => as_aux_lemma =>
                  have hlnD : decide (n < T) = true := by simp [hln]
                  obtain ⟨bt, ot, hA, hbt, q0⟩ := (HRT.out.below HR.out.low).int_at hln
                  obtain ⟨t', hti⟩ : ∃ t', e.ts[n]? = some t' := ⟨_, List.getElem?_eq_getElem (by have := HTT.out; omega)⟩
                  obtain ⟨t0, t1⟩ := HOKE.out.ts t' (List.mem_of_getElem? hti)
                  obtain ⟨t, rfl⟩ := Int.eq_ofNat_of_zero_le t0
                  have htN : t < N := by omega
                  have HTI := Lib.hid hti
                  subst hA
                  obtain ⟨o, ho⟩ : ∃ o, out[v]? = some o := ⟨_, List.getElem?_eq_getElem (by rw [HO.out.len]; exact hvN)⟩
                  have hgo := gi_at ho
                  have HGO := Lib.hid hgo
                  have HO1 : Hid (0 ≤ o ∧ o ≤ 1099511627776) := by rw [← hgo]; exact HO.out.ord v
                  have f0 := ext_cell (HR.out.kO.gint ho)
                  have f1 := ext_cell (show wr.cell? ⟨be, 0, none⟩ = some (.int .i64 (v : Nat)) from HKE.out.cell 0)
                  have f2 := ext_cell (show wr.cell? ⟨be, 2, none⟩ = some (.int .i64 e.cost) from HKE.out.cell 2)
                  obtain ⟨s0, hs0⟩ : ∃ s0, mn (o + e.cost) = s0 := ⟨_, rfl⟩
                  have HPL := plus_b HO1.out HOKE.out.cost hs0
                  have HS := Lib.hid hs0
                  clear hti ho hgo q0 t0 t1 hbt hs0
                  go_upto_region 20 with fail
                  clear e1
                  refine wp_region_ext (by kernel_rfl) (by kernel_rfl) ?_
                  repeat (go_big_quiet_step (with_reducible exact calls_ext (HPL.out _)))
                  refine wpQuiet_nil ?_
                  rintro _ ⟨u, rfl⟩
                  have HRu := Lib.hid (HR.out.below u.h)
                  have HKEu := Lib.hid (HKE.out.below u.h HKE.out.lt)
                  obtain ⟨w7, hw7⟩ : ∃ w7, u.W = w7 := ⟨_, rfl⟩
                  rw [hw7] at HRu HKEu ⊢
                  clear hw7 u f0 f1 f2 HPL HR HKE
                  have HRT7 := Lib.hid (HRT.out.below HRu.out.low)
                  have e1 : w7.cell? ⟨be, 1, none⟩ = some (.slice (some ⟨bt, ot, none⟩) T e.c) := HKEu.out.cell 1
                  have HC0 : Hid (s0 = mn (o + e.cost + oth (inC U) e.ts n 0)) := by rw [← HS.out]; exact Lib.hid (by simp [oth])
                  go_wp2_with fail
                  go_loop [12, 13] (fun x y => ∃ (j : Nat) (s : Int), j ≤ T ∧ y = .int .i64 j ∧ x = .int .i64 s ∧ Hid (s = mn (o + e.cost + oth (inC U) e.ts n j))) (fun _ y => T - (intOf y).toNat)
                  case atStart => exact ⟨0, s0, Nat.zero_le _, rfl, rfl, HC0⟩
                  case round =>
                    obtain ⟨j, s, hj, rfl, rfl, HC⟩ := hrel
                    clear HC0
                    by_cases hlj : j < T
                    case neg =>
                      have hljD : decide (j < T) = false := by simp [hlj]
                      obtain rfl : T = j := by omega
                      obtain ⟨b2, o2, hA2, _, q0⟩ := HRT7.out.int_at hln
                      rw [HTI.out] at q0
                      simp only [Option.getD_some] at q0
                      injection hA2 with hA2
                      injection hA2 with hA3 hA4
                      subst hA3 hA4
                      obtain ⟨ov, hov⟩ : ∃ ov, out[t]? = some ov := ⟨_, List.getElem?_eq_getElem (by rw [HO.out.len]; exact htN)⟩
                      have x0 := HRu.out.kO.gint hov
                      have HOV := Lib.hid hov
                      have HGT : Hid (gi out t = ov) := gi_at hov
                      have HRL : Hid (rlx (inC U) (gi out) e n = s) := by
                        have h := HC.out
                        show _ = _
                        unfold rlx
                        rw [h, HHD.out, HGO.out, HTT.out]
                      clear hov
                      by_cases hlow : s < ov
                      case neg => as_aux_lemma =>
                        have hlowD : decide (s < ov) = false := by simp; omega
                        have HP8 : Hid (OPassT b es (inC U) out0 out k e (n + 1)) := HP.out.skip HTI.out (by rw [HGT.out, HRL.out]; omega)
                        clear hlow
                        go_wp2_with fail
                        go_roundw
                        case rel => exact ⟨n + 1, out, b, by omega, by go_num, rfl, HRu, HO, HP8, HKEu⟩
                        case measure => simp [intOf]; omega
                      case pos => as_aux_lemma =>
                        have hlowD : decide (s < ov) = true := by simp [hlow]
                        have hlt2 : rlx (inC U) (gi out) e n < gi out t := by rw [HRL.out, HGT.out]; exact hlow
                        have hs0 : 0 ≤ s := by
                          rw [← HRL.out]
                          unfold rlx
                          have h1 := HO1.out.1
                          have h2 := HOKE.out.cost.1
                          have h3 := oth_nn (fun i => (inC_ord HSO.out.nrm i).1) e.ts n e.ts.length
                          have h4 := (HO.out.ord e.hd.toNat).1
                          exact mn_nn (by omega)
                        have HO8 : Hid (OI es (inC U) r N (out.set t s)) := by
                          rw [← HRL.out]
                          exact HO.out.lower (fun i => (inC_ord HSO.out.nrm i).1) (List.mem_of_getElem? HEk.out) HOKE.out.cost.1 HTI.out htN hlt2
                        have HP8 : Hid (OPassT true es (inC U) out0 (out.set t s) k e (n + 1)) := HP.out.low HOV.out hs0 hlow
                        have y0 := HRu.out.kO.frozen t
                        have HR8 := Lib.hid (HRu.out.put t s)
                        have HKE8 : Hid (Blk (w7.setCell ⟨go, t, none⟩ (.int .i64 s)) be 48 #[.int .i64 (v : Nat), .slice (some ⟨bt, ot, none⟩) T e.c, .int .i64 e.cost, .int .i64 e.l0, .int .i64 e.l1]) := HKEu.out.far (p := ⟨go, t, none⟩) (Blk.ne_ HKEu.out HRu.out.kO (by decide)) _
                        clear hlow hlt2 hs0
                        go_wp2_with fail
                        go_roundw
                        case rel => exact ⟨n + 1, out.set t s, true, by omega, by go_num, rfl, HR8, HO8, HP8, HKE8⟩
                        case measure => simp [intOf]; omega
                    case pos => as_aux_lemma =>
                      have hljD : decide (j < T) = true := by simp [hlj]
                      obtain ⟨b2, o2, hA2, _, q0⟩ := HRT7.out.int_at hlj
                      obtain ⟨tj', htj⟩ : ∃ tj', e.ts[j]? = some tj' := ⟨_, List.getElem?_eq_getElem (by have := HTT.out; omega)⟩
                      obtain ⟨t0, t1⟩ := HOKE.out.ts tj' (List.mem_of_getElem? htj)
                      obtain ⟨tj, rfl⟩ := Int.eq_ofNat_of_zero_le t0
                      have htjN : tj < N := by omega
                      rw [htj] at q0
                      simp only [Option.getD_some] at q0
                      injection hA2 with hA2
                      injection hA2 with hA3 hA4
                      subst hA3 hA4
                      have HOT : Hid (oth (inC U) e.ts n (j + 1) = oth (inC U) e.ts n j + (if (j : Int) = (n : Int) then 0 else inC U tj)) := by
                        show oth (inC U) e.ts n j + _ = _
                        rw [htj]
                        rfl
                      have hnn := oth_nn (fun i => (inC_ord HSO.out.nrm i).1) e.ts n j
                      by_cases hik : j = n
                      case pos =>
                        have hD1 : ((j : Int) != (n : Int)) = false := by simp [hik]
                        have hD2 : decide (j = n) = true := by simp [hik]
                        have hD3 : (j != n) = false := by simp [hik]
                        have HC2 : Hid (s = mn (o + e.cost + oth (inC U) e.ts n (j + 1))) := by rw [HOT.out, if_pos (by omega), Int.add_zero]; exact HC
                        clear hik hnn htj HOT t0 t1
                        go_wp2_with fail
                        go_round
                        case rel => exact ⟨j + 1, s, by omega, by go_num, rfl, HC2⟩
                        case measure => simp [intOf]; omega
                      case neg =>
                        have hD1 : ((j : Int) != (n : Int)) = true := by simp; omega
                        have hD2 : decide (j = n) = false := by simp [hik]
                        have hD3 : (j != n) = true := by simp [hik]
                        have hij := inC_ord HSO.out.nrm tj
                        have HC2 : Hid (mn (s + inC U tj) = mn (o + e.cost + oth (inC U) e.ts n (j + 1))) := by
                          show _ = _
                          rw [HOT.out, if_neg (by omega), HC.out, mn_add hij.1, Int.add_assoc (o + e.cost)]
                        have x1 : w7.cell? ⟨g, tj, none⟩ = some (.int .i64 (inC U tj)) := HRu.out.kI.gint (HIL.out.2 tj htjN)
                        have hs0 : 0 ≤ s ∧ s ≤ 1099511627776 := by rw [HC.out]; exact ⟨mn_nn (by have := HO1.out.1; have := HOKE.out.cost.1; omega), mn_le _⟩
                        obtain ⟨y, hy⟩ : ∃ y, inC U tj = y := ⟨_, rfl⟩
                        rw [hy] at x1 HC2 hij
                        have HPL := Lib.hid (plus_any s y hs0 hij w7)
                        clear hik hnn htj HOT t0 t1 hij hs0 hy
                        go_wp2_with fail
                        refine HPL.out.mono ?_
                        rintro e5 w5 ⟨rfl, rfl⟩
                        go_wp2_with fail
                        go_round
                        case rel => exact ⟨j + 1, _, by omega, by go_num, rfl, HC2⟩
                        case measure => simp [intOf]; omega
end Go.Proofs.Ytbalhkbpmahkgaa

namespace Go.Proofs.Ytbalhkbpmahkgaa
open Go.RowKit

theorem IsOut.of {es : List Ed} {root : Int} {N : Nat} {ol : List Int} {U : Nat → Vl} (h : IsOut es root N ol) (hs : Sol es U) : OSol es (inC U) root N (gi ol) := by
  obtain ⟨U', hs', ho⟩ := h
  obtain rfl := hs.uniq hs'
  exact ho
set_option maxRecDepth 100000 in
set_option maxHeartbeats 4000000 in
theorem rthrough_any (w : World) (N ce B : Nat) (E : Option Addr) (es : List Ed) (root : Int) (hE : HG w B E es.length es) (hB : B ≤ w.heap.size) (hes : ∀ e ∈ es, e.Ok N) (hN : N ≤ 30) (hN1 : 1 ≤ N) (hM : es.length ≤ 60) :
    Calls Try.prog 16 #[.agg #[.int .i64 N, .slice E es.length ce], .int .i64 root] w (RetL N (IsThr es root N) w) := by
  have HE := Lib.hid (hE.more hB)
  have HOK := Lib.hid hes
  clear hE hes
  obtain ⟨M, hMM⟩ : ∃ M, es.length = M := ⟨_, rfl⟩
  rw [hMM] at HE hM ⊢
  have HMM := Lib.hid hMM
  clear hMM
  have hmk := mk_ints N (by omega)
  go_enter Try.func16, Try.ntmps16
  go_upto_region 1 with fail
  obtain ⟨w1, hw1⟩ : ∃ w1, w.alloc (.cells #[.int .i64 N, .slice E M ce] 24) = w1 := ⟨_, rfl⟩
  obtain ⟨bh, hbh⟩ : ∃ bh, w.heap.size = bh := ⟨_, rfl⟩
  have HKH : Hid (Blk w1 bh 24 #[.int .i64 N, .slice E M ce]) := by rw [← hw1]; exact Blk.new' w _ _ hbh
  have HB1 : Hid (Below w.heap.size w w1) := by rw [← hw1]; exact (Below.refl _ _).alloc (Nat.le_refl _) _
  try rw [hw1]
  try rw [hbh]
  have HBH := Lib.hid hbh
  clear hw1 hbh
  have H9 : Hid (∀ w9, Below w1.heap.size w1 w9 → w9.cell? ⟨bh, 0, none⟩ = some (.int .i64 N) ∧ w9.cell? ⟨bh, 1, none⟩ = some (.slice E M ce) ∧ Below w1.heap.size w1 w9) := fun w9 h => by
    have K := HKH.out.below h HKH.out.lt
    exact ⟨K.cell 0, K.cell 1, h⟩
  have HIN : Hid (∀ w9, Below w1.heap.size w1 w9 → Calls Try.prog 30 #[.agg #[.int .i64 N, .slice E M ce]] w9 (RetL N (IsIn es) w9)) := fun w9 h9 => by
    have hb9 : Below w.heap.size w w9 := HB1.out.trans (h9.mono HB1.out.size)
    have h := rinside_any w9 N ce w.heap.size E es (by rw [HMM.out]; exact HE.out.below hb9) hb9.size HOK.out hN (by rw [HMM.out]; exact hM)
    rw [HMM.out] at h
    exact h
  have HOU : Hid (∀ w9, Below w1.heap.size w1 w9 → Calls Try.prog 14 #[.agg #[.int .i64 N, .slice E M ce], .int .i64 root] w9 (RetL N (IsOut es root N) w9)) := fun w9 h9 => by
    have hb9 : Below w.heap.size w w9 := HB1.out.trans (h9.mono HB1.out.size)
    have h := routside_any w9 N ce w.heap.size E es root (by rw [HMM.out]; exact HE.out.below hb9) hb9.size HOK.out hN hN1 (by rw [HMM.out]; exact hM)
    rw [HMM.out] at h
    exact h
  have B8 : Below w1.heap.size w1 w1.drew := (Below.refl _ _).drew
  go_cut [5, 6] (fun x5 x6 wx => ∃ (g go : Nat) (il ol : List Int), x5 = .slice (some ⟨g, 0, none⟩) N N ∧ x6 = .slice (some ⟨go, 0, none⟩) N N ∧ il.length = N ∧ ol.length = N ∧ Blk wx g 3 (ints il).toArray ∧ Blk wx go 3 (ints ol).toArray ∧ IsIn es il ∧ IsOut es root N ol ∧ Below w1.heap.size w1 wx)
  case first =>
    go_region_held3 (fun w9 => w9.cell? ⟨bh, 0, none⟩ = some (.int .i64 N) ∧ w9.cell? ⟨bh, 1, none⟩ = some (.slice E M ce) ∧ Below w1.heap.size w1 w9)
      (first | exact H9.out _ B8 | exact H9.out _ X7 | exact H9.out _ X5)
      (first
        | (go_at_call 30; (with_reducible refine (HIN.out _ B8).mono ?_); rintro e5 w5 ⟨g5, l5, rfl, hl5, k5, hi5, hg5, hb5⟩; have X5 : Below w1.heap.size w1 w5 := B8.trans (hb5.mono (Nat.le_refl _)); have HK5 := Lib.hid (And.intro hl5 (And.intro k5 hi5)); clear hl5 k5 hi5 hb5)
        | (go_at_call 14; (with_reducible refine (HOU.out _ X5).mono ?_); rintro e7 w7 ⟨g7, l7, rfl, hl7, k7, ho7, hg7, hb7⟩; have X7 : Below w1.heap.size w1 w7 := X5.trans (hb7.mono X5.size); have HK7 := Lib.hid (And.intro hl7 (And.intro k7 ho7)); have HK57 := Lib.hid (HK5.out.2.1.below hb7 HK5.out.2.1.lt); clear hl7 k7 ho7 hb7 hg7)
        | (go_at_call 14; (with_reducible refine (HOU.out _ B8).mono ?_); rintro e7 w7 ⟨g7, l7, rfl, hl7, k7, ho7, hg7, hb7⟩; have X7 : Below w1.heap.size w1 w7 := B8.trans (hb7.mono (Nat.le_refl _)); have HK7 := Lib.hid (And.intro hl7 (And.intro k7 ho7)); clear hl7 k7 ho7 hb7 hg7)
        | (go_at_call 30; (with_reducible refine (HIN.out _ X7).mono ?_); rintro e5 w5 ⟨g5, l5, rfl, hl5, k5, hi5, hg5, hb5⟩; have X5 : Below w1.heap.size w1 w5 := X7.trans (hb5.mono X7.size); have HK5 := Lib.hid (And.intro hl5 (And.intro k5 hi5)); have HK75 := Lib.hid (HK7.out.2.1.below hb5 HK7.out.2.1.lt); clear hl5 k5 hi5 hb5))
    all_goals
      go_wp2_with fail
      go_meet
      first
        | exact ⟨g5, g7, l5, l7, rfl, rfl, HK5.out.1, HK7.out.1, HK57.out, HK7.out.2.1, HK5.out.2.2, HK7.out.2.2, X7⟩
        | exact ⟨g5, g7, l5, l7, rfl, rfl, HK5.out.1, HK7.out.1, HK5.out.2.1, HK75.out, HK5.out.2.2, HK7.out.2.2, X5⟩
  case rest =>
    obtain ⟨g, go, il, ol, rfl, rfl, hil, hol, KI, KO, hin, hou, X7⟩ := hcut
    rename World => w2
    obtain ⟨U, hsol, hIL⟩ := hin.isL hil
    have HO := Lib.hid (hou.of hsol)
    have HSO := Lib.hid hsol
    have HIL := Lib.hid hIL
    have HOL := Lib.hid hol
    have HKH2 := Lib.hid (HKH.out.below X7 HKH.out.lt)
    have HKI2 := Lib.hid KI
    have HKO2 := Lib.hid KO
    have HB2 : Hid (Below w.heap.size w w2) := HB1.out.trans (X7.mono HB1.out.size)
    clear H9 HIN HOU B8 hil hol KI KO hin hou X7 HKH HB1 hsol hIL
    have c0 : w2.cell? ⟨bh, 0, none⟩ = some (.int .i64 N) := HKH2.out.cell 0
    have c1 : w2.cell? ⟨bh, 1, none⟩ = some (.slice E M ce) := HKH2.out.cell 1
    go_upto_region 3 with fail
    obtain ⟨w3, hw3⟩ : ∃ w3, w2.alloc (.cells (ints (List.replicate N 0)).toArray 3) = w3 := ⟨_, rfl⟩
    obtain ⟨gl, hgl⟩ : ∃ gl, w2.heap.size = gl := ⟨_, rfl⟩
    have hx3 : Below w2.heap.size w2 w3 := by rw [← hw3]; exact (Below.refl _ _).alloc (Nat.le_refl _) _
    obtain ⟨l, hl⟩ : ∃ l, (List.range N).map (fun i => mn (gi ol i + inC U i)) = l := ⟨_, rfl⟩
    have HLL : Hid (l.length = N) := by rw [← hl]; exact Lib.hid (by simp)
    have HLA : Hid (∀ i, i < N → l[i]? = some (mn (gi ol i + inC U i))) := fun i hi => by rw [← hl, List.getElem?_map, List.getElem?_range hi]; rfl
    have HKG3 : Hid (Blk w3 gl 3 (ints (fill l 0)).toArray) := by rw [← hw3, fill_zero, HLL.out]; exact Blk.new' w2 _ _ hgl
    have HKI3 := Lib.hid (HKI2.out.below hx3 HKI2.out.lt)
    have HKO3 := Lib.hid (HKO2.out.below hx3 HKO2.out.lt)
    have HKH3 := Lib.hid (HKH2.out.below hx3 HKH2.out.lt)
    have HB3 : Hid (Below w.heap.size w w3) := HB2.out.trans (hx3.mono HB2.out.size)
    have HGL : Hid (g < gl ∧ go < gl ∧ bh < gl ∧ w.heap.size ≤ gl) := by rw [← hgl]; exact ⟨HKI2.out.lt, HKO2.out.lt, HKH2.out.lt, HB2.out.size⟩
    try rw [hw3]
    try rw [hgl]
    clear hw3 hgl hx3 hmk HKI2 HKO2 HKH2 HB2 c0 c1 hl
    go_wp2_with fail
    go_loopw [8] (fun x wr => ∃ i : Nat, i ≤ N ∧ x = .int .i64 i ∧ Hid (Blk wr gl 3 (ints (fill l i)).toArray) ∧ Hid (Blk wr go 3 (ints ol).toArray) ∧ Hid (Blk wr g 3 (ints il).toArray) ∧ Hid (Blk wr bh 24 #[.int .i64 N, .slice E M ce]) ∧ Hid (Below w.heap.size w wr)) (fun x _ => N - (intOf x).toNat)
    case atStart => exact ⟨0, Nat.zero_le _, rfl, HKG3, HKO3, HKI3, HKH3, HB3⟩
    case round =>
      obtain ⟨i, hi, rfl, HKG, HKO, HKI, HKH, HB⟩ := hrel
      clear HKG3 HKO3 HKI3 HKH3 HB3
      have c0 : wr.cell? ⟨bh, 0, none⟩ = some (.int .i64 N) := HKH.out.cell 0
      by_cases hlt : i < N
      case neg =>
        have hltD : decide (i < N) = false := by simp [hlt]
        obtain rfl : N = i := by omega
        have HK2 : Hid (Blk wr gl 3 (ints l).toArray) := by have h := HKG.out; rw [← HLL.out, fill_end] at h; exact h
        go_wp2_with fail
        go_ret
        exact ⟨gl, l, rfl, HLL.out, HK2.out, ⟨U, gi ol, HSO.out, HO.out, HLA.out⟩, HGL.out.2.2.2, HB.out⟩
      case pos =>
        have hltD : decide (i < N) = true := by simp [hlt]
        obtain ⟨x, hx⟩ : ∃ x, ol[i]? = some x := ⟨_, List.getElem?_eq_getElem (by have := HOL.out; omega)⟩
        have hgx : gi ol i = x := gi_at hx
        have x0 : wr.cell? ⟨go, i, none⟩ = some (.int .i64 x) := HKO.out.gint hx
        obtain ⟨y, hy⟩ : ∃ y, inC U i = y := ⟨_, rfl⟩
        have x1 : wr.cell? ⟨g, i, none⟩ = some (.int .i64 y) := HKI.out.gint (by rw [HIL.out.2 i hlt, hy])
        have hxo : 0 ≤ x ∧ x ≤ 1099511627776 := by rw [← hgx]; exact HO.out.pre.ord i
        have hyo : 0 ≤ y ∧ y ≤ 1099511627776 := by rw [← hy]; exact inC_ord HSO.out.nrm i
        have hli := HLA.out i hlt
        rw [hgx, hy] at hli
        obtain ⟨s, hs⟩ : ∃ s, mn (x + y) = s := ⟨_, rfl⟩
        rw [hs] at hli
        have HLI := Lib.hid hli
        have hpl := plus_any y x hyo hxo wr.drew
        rw [Int.add_comm, hs] at hpl
        have HPL := Lib.hid hpl
        obtain ⟨z, hz⟩ : ∃ z, (fill l i)[i]? = some z := ⟨_, List.getElem?_eq_getElem (by rw [fill_len l (by rw [HLL.out]; omega), HLL.out]; exact hlt)⟩
        have z0 : wr.cell? ⟨gl, i, none⟩ = some (.int .i64 z) := HKG.out.gint hz
        have z1 : wr.drew.frozen? ⟨gl, i, none⟩ = false := HKG.out.frozen i
        have z2 : wr.drew.cell? ⟨gl, i, none⟩ = some (.int .i64 z) := z0
        have HKGf : Hid (Blk (wr.drew.setCell ⟨gl, i, none⟩ (.int .i64 s)) gl 3 (ints (fill l (i + 1))).toArray) := by rw [← fill_set HLI.out]; exact (Blk.drew1 HKG.out).set_ints i s
        have HKOf : Hid (Blk (wr.drew.setCell ⟨gl, i, none⟩ (.int .i64 s)) go 3 (ints ol).toArray) := (Blk.drew1 HKO.out).far (p := ⟨gl, i, none⟩) (by have := HGL.out; show go ≠ gl; omega) _
        have HKIf : Hid (Blk (wr.drew.setCell ⟨gl, i, none⟩ (.int .i64 s)) g 3 (ints il).toArray) := (Blk.drew1 HKI.out).far (p := ⟨gl, i, none⟩) (by have := HGL.out; show g ≠ gl; omega) _
        have HKHf : Hid (Blk (wr.drew.setCell ⟨gl, i, none⟩ (.int .i64 s)) bh 24 #[.int .i64 N, .slice E M ce]) := (Blk.drew1 HKH.out).far (p := ⟨gl, i, none⟩) (by have := HGL.out; show bh ≠ gl; omega) _
        have HBf : Hid (Below w.heap.size w (wr.drew.setCell ⟨gl, i, none⟩ (.int .i64 s))) := (below_drew1 HB.out).setCell (p := ⟨gl, i, none⟩) HGL.out.2.2.2 _
        clear hx hgx hy hxo hyo hli hs hpl hz HKG HKO HKI HKH HB
        go_upto_region 6 with fail
        clear c0
        simp only [ldI_eq]
        go_region_held3 (fun _ => True) (trivial)
          (first | (go_at_call 31; (with_reducible refine HPL.out.mono ?_); rintro e5 w5 ⟨rfl, rfl⟩))
        all_goals
          go_wp2_with fail
          go_roundw
          case rel => exact ⟨i + 1, by omega, by go_num, HKGf, HKOf, HKIf, HKHf, HBf⟩
          case measure => simp [intOf]; omega
set_option maxRecDepth 100000 in
set_option maxHeartbeats 4000000 in
theorem redge_any (w : World) (N ce B : Nat) (E : Option Addr) (es : List Ed) (root : Int) (hE : HG w B E es.length es) (hB : B ≤ w.heap.size) (hes : ∀ e ∈ es, e.Ok N) (hN : N ≤ 30) (hN1 : 1 ≤ N) (hM : es.length ≤ 60) :
    Calls Try.prog 18 #[.agg #[.int .i64 N, .slice E es.length ce], .int .i64 root] w (RetL es.length (IsEth es root N) w) := by
  have HE := Lib.hid (hE.more hB)
  have HOK := Lib.hid hes
  clear hE hes
  obtain ⟨M, hMM⟩ : ∃ M, es.length = M := ⟨_, rfl⟩
  rw [hMM] at HE hM ⊢
  have HMM := Lib.hid hMM
  clear hMM
  have hmk := mk_ints M (by omega)
  go_enter Try.func18, Try.ntmps18
  go_upto_region 1 with fail
  obtain ⟨w1, hw1⟩ : ∃ w1, w.alloc (.cells #[.int .i64 N, .slice E M ce] 24) = w1 := ⟨_, rfl⟩
  obtain ⟨bh, hbh⟩ : ∃ bh, w.heap.size = bh := ⟨_, rfl⟩
  have HKH : Hid (Blk w1 bh 24 #[.int .i64 N, .slice E M ce]) := by rw [← hw1]; exact Blk.new' w _ _ hbh
  have HB1 : Hid (Below w.heap.size w w1) := by rw [← hw1]; exact (Below.refl _ _).alloc (Nat.le_refl _) _
  try rw [hw1]
  try rw [hbh]
  have HBH := Lib.hid hbh
  clear hw1 hbh
  have H9 : Hid (∀ w9, Below w1.heap.size w1 w9 → w9.cell? ⟨bh, 0, none⟩ = some (.int .i64 N) ∧ w9.cell? ⟨bh, 1, none⟩ = some (.slice E M ce) ∧ Below w1.heap.size w1 w9) := fun w9 h => by
    have K := HKH.out.below h HKH.out.lt
    exact ⟨K.cell 0, K.cell 1, h⟩
  have HIN : Hid (∀ w9, Below w1.heap.size w1 w9 → Calls Try.prog 30 #[.agg #[.int .i64 N, .slice E M ce]] w9 (RetL N (IsIn es) w9)) := fun w9 h9 => by
    have hb9 : Below w.heap.size w w9 := HB1.out.trans (h9.mono HB1.out.size)
    have h := rinside_any w9 N ce w.heap.size E es (by rw [HMM.out]; exact HE.out.below hb9) hb9.size HOK.out hN (by rw [HMM.out]; exact hM)
    rw [HMM.out] at h
    exact h
  have HOU : Hid (∀ w9, Below w1.heap.size w1 w9 → Calls Try.prog 14 #[.agg #[.int .i64 N, .slice E M ce], .int .i64 root] w9 (RetL N (IsOut es root N) w9)) := fun w9 h9 => by
    have hb9 : Below w.heap.size w w9 := HB1.out.trans (h9.mono HB1.out.size)
    have h := routside_any w9 N ce w.heap.size E es root (by rw [HMM.out]; exact HE.out.below hb9) hb9.size HOK.out hN hN1 (by rw [HMM.out]; exact hM)
    rw [HMM.out] at h
    exact h
  have B8 : Below w1.heap.size w1 w1.drew := (Below.refl _ _).drew
  go_cut [5, 6] (fun x5 x6 wx => ∃ (g go : Nat) (il ol : List Int), x5 = .slice (some ⟨g, 0, none⟩) N N ∧ x6 = .slice (some ⟨go, 0, none⟩) N N ∧ il.length = N ∧ ol.length = N ∧ Blk wx g 3 (ints il).toArray ∧ Blk wx go 3 (ints ol).toArray ∧ IsIn es il ∧ IsOut es root N ol ∧ Below w1.heap.size w1 wx)
  case first =>
    go_region_held3 (fun w9 => w9.cell? ⟨bh, 0, none⟩ = some (.int .i64 N) ∧ w9.cell? ⟨bh, 1, none⟩ = some (.slice E M ce) ∧ Below w1.heap.size w1 w9)
      (first | exact H9.out _ B8 | exact H9.out _ X7 | exact H9.out _ X5)
      (first
        | (go_at_call 30; (with_reducible refine (HIN.out _ B8).mono ?_); rintro e5 w5 ⟨g5, l5, rfl, hl5, k5, hi5, hg5, hb5⟩; have X5 : Below w1.heap.size w1 w5 := B8.trans (hb5.mono (Nat.le_refl _)); have HK5 := Lib.hid (And.intro hl5 (And.intro k5 hi5)); clear hl5 k5 hi5 hb5)
        | (go_at_call 14; (with_reducible refine (HOU.out _ X5).mono ?_); rintro e7 w7 ⟨g7, l7, rfl, hl7, k7, ho7, hg7, hb7⟩; have X7 : Below w1.heap.size w1 w7 := X5.trans (hb7.mono X5.size); have HK7 := Lib.hid (And.intro hl7 (And.intro k7 ho7)); have HK57 := Lib.hid (HK5.out.2.1.below hb7 HK5.out.2.1.lt); clear hl7 k7 ho7 hb7 hg7)
        | (go_at_call 14; (with_reducible refine (HOU.out _ B8).mono ?_); rintro e7 w7 ⟨g7, l7, rfl, hl7, k7, ho7, hg7, hb7⟩; have X7 : Below w1.heap.size w1 w7 := B8.trans (hb7.mono (Nat.le_refl _)); have HK7 := Lib.hid (And.intro hl7 (And.intro k7 ho7)); clear hl7 k7 ho7 hb7 hg7)
        | (go_at_call 30; (with_reducible refine (HIN.out _ X7).mono ?_); rintro e5 w5 ⟨g5, l5, rfl, hl5, k5, hi5, hg5, hb5⟩; have X5 : Below w1.heap.size w1 w5 := X7.trans (hb5.mono X7.size); have HK5 := Lib.hid (And.intro hl5 (And.intro k5 hi5)); have HK75 := Lib.hid (HK7.out.2.1.below hb5 HK7.out.2.1.lt); clear hl5 k5 hi5 hb5))
    all_goals
      go_wp2_with fail
      go_meet
      first
        | exact ⟨g5, g7, l5, l7, rfl, rfl, HK5.out.1, HK7.out.1, HK57.out, HK7.out.2.1, HK5.out.2.2, HK7.out.2.2, X7⟩
        | exact ⟨g5, g7, l5, l7, rfl, rfl, HK5.out.1, HK7.out.1, HK5.out.2.1, HK75.out, HK5.out.2.2, HK7.out.2.2, X5⟩
  case rest =>
    obtain ⟨g, go, il, ol, rfl, rfl, hil, hol, KI, KO, hin, hou, X7⟩ := hcut
    rename World => w2
    obtain ⟨U, hsol, hIL⟩ := hin.isL hil
    have HO := Lib.hid (hou.of hsol)
    have HSO := Lib.hid hsol
    have HIL := Lib.hid hIL
    have HOL := Lib.hid hol
    have HKH2 := Lib.hid (HKH.out.below X7 HKH.out.lt)
    have HKI2 := Lib.hid KI
    have HKO2 := Lib.hid KO
    have HB2 : Hid (Below w.heap.size w w2) := HB1.out.trans (X7.mono HB1.out.size)
    clear H9 HIN HOU B8 hil hol KI KO hin hou X7 HKH HB1 hsol hIL
    have c0 : w2.cell? ⟨bh, 0, none⟩ = some (.int .i64 N) := HKH2.out.cell 0
    have c1 : w2.cell? ⟨bh, 1, none⟩ = some (.slice E M ce) := HKH2.out.cell 1
    go_upto_region 3 with fail
    obtain ⟨w3, hw3⟩ : ∃ w3, w2.alloc (.cells (ints (List.replicate M 0)).toArray 3) = w3 := ⟨_, rfl⟩
    obtain ⟨gl, hgl⟩ : ∃ gl, w2.heap.size = gl := ⟨_, rfl⟩
    have hx3 : Below w2.heap.size w2 w3 := by rw [← hw3]; exact (Below.refl _ _).alloc (Nat.le_refl _) _
    obtain ⟨l, hl⟩ : ∃ l, es.map (fun e => eth (inC U) (gi ol) e) = l := ⟨_, rfl⟩
    have HLL : Hid (l.length = M) := by rw [← hl]; exact Lib.hid (by simp [HMM.out])
    have HLA : Hid (∀ (k : Nat) (e : Ed), es[k]? = some e → l[k]? = some (eth (inC U) (gi ol) e)) := fun k e he => by rw [← hl, List.getElem?_map, he]; rfl
    have HKG3 : Hid (Blk w3 gl 3 (ints (fill l 0)).toArray) := by rw [← hw3, fill_zero, HLL.out]; exact Blk.new' w2 _ _ hgl
    have HKI3 := Lib.hid (HKI2.out.below hx3 HKI2.out.lt)
    have HKO3 := Lib.hid (HKO2.out.below hx3 HKO2.out.lt)
    have HKH3 := Lib.hid (HKH2.out.below hx3 HKH2.out.lt)
    have HB3 : Hid (Below w.heap.size w w3) := HB2.out.trans (hx3.mono HB2.out.size)
    have HGL : Hid (g < gl ∧ go < gl ∧ bh < gl ∧ w.heap.size ≤ gl) := by rw [← hgl]; exact ⟨HKI2.out.lt, HKO2.out.lt, HKH2.out.lt, HB2.out.size⟩
    try rw [hw3]
    try rw [hgl]
    clear hw3 hgl hx3 hmk HKI2 HKO2 HKH2 HB2 c0 c1 hl
    go_wp2_with fail
    go_loopw [8] (fun x wr => ∃ k : Nat, k ≤ M ∧ x = .int .i64 k ∧ Hid (Blk wr gl 3 (ints (fill l k)).toArray) ∧ Hid (Blk wr go 3 (ints ol).toArray) ∧ Hid (Blk wr g 3 (ints il).toArray) ∧ Hid (Blk wr bh 24 #[.int .i64 N, .slice E M ce]) ∧ Hid (Below w.heap.size w wr)) (fun x _ => M - (intOf x).toNat)
    case atStart => exact ⟨0, Nat.zero_le _, rfl, HKG3, HKO3, HKI3, HKH3, HB3⟩
    case round =>
      obtain ⟨k, hk, rfl, HKG, HKO, HKI, HKH, HB⟩ := hrel
      clear HKG3 HKO3 HKI3 HKH3 HB3
      have c1 : wr.cell? ⟨bh, 1, none⟩ = some (.slice E M ce) := HKH.out.cell 1
      by_cases hlt : k < M
      case neg =>
        have hltD : decide (k < M) = false := by simp [hlt]
        obtain rfl : M = k := by omega
        have HK2 : Hid (Blk wr gl 3 (ints l).toArray) := by have h := HKG.out; rw [← HLL.out, fill_end] at h; exact h
        go_wp2_with fail
        go_ret
        exact ⟨gl, l, rfl, HLL.out, HK2.out, ⟨U, gi ol, HSO.out, HO.out, HLA.out⟩, HGL.out.2.2.2, HB.out⟩
      case pos =>
        have hltD : decide (k < M) = true := by simp [hlt]
        obtain ⟨b', off, e, hE', hb', he, p0, p1, p2, p3, p4, hRt⟩ := (HE.out.below HB.out).at_ hlt
        have hoke := HOK.out e (List.mem_of_getElem? he)
        have HOKE := Lib.hid hoke
        obtain ⟨v, hv⟩ := Int.eq_ofNat_of_zero_le hoke.hd.1
        have hvN : v < N := by have := hoke.hd.2; omega
        rw [hv] at p0
        have HHD : Hid (e.hd.toNat = v) := by rw [hv]; exact Lib.hid (Int.toNat_natCast v)
        obtain ⟨T, hT⟩ : ∃ T, e.ts.length = T := ⟨_, rfl⟩
        obtain ⟨eA, heA⟩ : ∃ eA, e.A = eA := ⟨_, rfl⟩
        rw [hT, heA] at p1
        have HRT : Hid (Reads w w.heap.size 1 eA T (ints e.ts)) := by
          rw [← hT, ← heA]
          exact HE.out.2 e (List.mem_of_getElem? he)
        have HTT := Lib.hid hT
        have hT4 : T ≤ 4 := by rw [← hT]; exact hoke.few
        rw [hE'] at c1
        have hle := HLA.out k e he
        obtain ⟨r, hr⟩ : ∃ r, eth (inC U) (gi ol) e = r := ⟨_, rfl⟩
        rw [hr] at hle
        have HLI := Lib.hid hle
        have HRR := Lib.hid hr
        obtain ⟨o, ho⟩ : ∃ o, ol[v]? = some o := ⟨_, List.getElem?_eq_getElem (by have := HOL.out; omega)⟩
        have hgo := gi_at ho
        have HGO := Lib.hid hgo
        have HO1 : Hid (0 ≤ o ∧ o ≤ 1099511627776) := by rw [← hgo]; exact HO.out.pre.ord v
        have HOV := Lib.hid ho
        clear hRt he hoke hv hT heA hE' hle hr ho hgo
        go_upto_region 7 with fail
        obtain ⟨w6, hw6⟩ : ∃ w6, wr.alloc (.cells #[.int .i64 (v : Nat), .slice eA T e.c, .int .i64 e.cost, .int .i64 e.l0, .int .i64 e.l1] 48) = w6 := ⟨_, rfl⟩
        obtain ⟨be, hbe⟩ : ∃ be, wr.heap.size = be := ⟨_, rfl⟩
        have hx6 : Below wr.heap.size wr w6 := by rw [← hw6]; exact (Below.refl _ _).alloc (Nat.le_refl _) _
        have HKE6 : Hid (Blk w6 be 48 #[.int .i64 (v : Nat), .slice eA T e.c, .int .i64 e.cost, .int .i64 e.l0, .int .i64 e.l1]) := by rw [← hw6, ← hbe]; exact Blk.new' wr _ _ rfl
        have HKG6 := Lib.hid (HKG.out.below hx6 HKG.out.lt)
        have HKO6 := Lib.hid (HKO.out.below hx6 HKO.out.lt)
        have HKI6 := Lib.hid (HKI.out.below hx6 HKI.out.lt)
        have HKH6 := Lib.hid (HKH.out.below hx6 HKH.out.lt)
        have HB6 : Hid (Below w.heap.size w w6) := HB.out.trans (hx6.mono HB.out.size)
        try rw [hw6]
        try rw [hbe]
        clear hw6 hbe hx6 HKG HKO HKI HKH HB c1 p0 p1 p2 p3 p4 hb'
        have f0 := ext_cell (HKO6.out.gint HOV.out)
        have f1 := ext_cell (show w6.cell? ⟨be, 0, none⟩ = some (.int .i64 (v : Nat)) from HKE6.out.cell 0)
        have f2 := ext_cell (show w6.cell? ⟨be, 2, none⟩ = some (.int .i64 e.cost) from HKE6.out.cell 2)
        obtain ⟨s0, hs0⟩ : ∃ s0, mn (o + e.cost) = s0 := ⟨_, rfl⟩
        have HPL := plus_b HO1.out HOKE.out.cost hs0
        have HC0 : Hid (s0 = mn (o + e.cost + oth (inC U) e.ts (-1) 0)) := by rw [← hs0]; exact Lib.hid (by simp [oth])
        clear hs0
        refine wp_region_ext (by kernel_rfl) (by kernel_rfl) ?_
        repeat (go_big_quiet_step (with_reducible exact calls_ext (HPL.out _)))
        refine wpQuiet_nil ?_
        rintro _ ⟨u, rfl⟩
        have HKGu := Lib.hid (HKG6.out.below u.h HKG6.out.lt)
        have HKOu := Lib.hid (HKO6.out.below u.h HKO6.out.lt)
        have HKIu := Lib.hid (HKI6.out.below u.h HKI6.out.lt)
        have HKHu := Lib.hid (HKH6.out.below u.h HKH6.out.lt)
        have HKEu := Lib.hid (HKE6.out.below u.h HKE6.out.lt)
        have HBu : Hid (Below w.heap.size w u.W) := HB6.out.trans (u.h.mono HB6.out.size)
        obtain ⟨w7, hw7⟩ : ∃ w7, u.W = w7 := ⟨_, rfl⟩
        rw [hw7] at HKGu HKOu HKIu HKHu HKEu HBu ⊢
        clear hw7 u f0 f1 f2 HPL HKG6 HKO6 HKI6 HKH6 HKE6 HB6
        have HRT7 := Lib.hid (HRT.out.below HBu.out)
        have e1 : w7.cell? ⟨be, 1, none⟩ = some (.slice eA T e.c) := HKEu.out.cell 1
        go_wp2_with fail
        go_loop [10, 11] (fun x y => ∃ (j : Nat) (s : Int), j ≤ T ∧ y = .int .i64 j ∧ x = .int .i64 s ∧ Hid (s = mn (o + e.cost + oth (inC U) e.ts (-1) j))) (fun _ y => T - (intOf y).toNat)
        case atStart => exact ⟨0, s0, Nat.zero_le _, rfl, rfl, HC0⟩
        case round =>
          obtain ⟨j, s, hj, rfl, rfl, HC⟩ := hrel
          clear HC0
          by_cases hlj : j < T
          case neg => as_aux_lemma =>
            have hljD : decide (j < T) = false := by simp [hlj]
            obtain rfl : T = j := by omega
            have hsr : s = r := by
              have h1 := HC.out
              rw [← HRR.out]
              unfold eth
              rw [h1, HHD.out, HGO.out, HTT.out]
            obtain ⟨z, hz⟩ : ∃ z, (fill l k)[k]? = some z := ⟨_, List.getElem?_eq_getElem (by rw [fill_len l (by rw [HLL.out]; omega), HLL.out]; exact hlt)⟩
            have z0 : w7.cell? ⟨gl, k, none⟩ = some (.int .i64 z) := HKGu.out.gint hz
            have z1 := HKGu.out.frozen k
            have HLS : Hid (l[k]? = some s) := by rw [hsr]; exact HLI
            have HKGf : Hid (Blk (w7.setCell ⟨gl, k, none⟩ (.int .i64 s)) gl 3 (ints (fill l (k + 1))).toArray) := by rw [← fill_set HLS.out]; exact HKGu.out.set_ints k s
            have HKOf : Hid (Blk (w7.setCell ⟨gl, k, none⟩ (.int .i64 s)) go 3 (ints ol).toArray) := HKOu.out.far (p := ⟨gl, k, none⟩) (by have := HGL.out; show go ≠ gl; omega) _
            have HKIf : Hid (Blk (w7.setCell ⟨gl, k, none⟩ (.int .i64 s)) g 3 (ints il).toArray) := HKIu.out.far (p := ⟨gl, k, none⟩) (by have := HGL.out; show g ≠ gl; omega) _
            have HKHf : Hid (Blk (w7.setCell ⟨gl, k, none⟩ (.int .i64 s)) bh 24 #[.int .i64 N, .slice E M ce]) := HKHu.out.far (p := ⟨gl, k, none⟩) (by have := HGL.out; show bh ≠ gl; omega) _
            have HBf : Hid (Below w.heap.size w (w7.setCell ⟨gl, k, none⟩ (.int .i64 s))) := HBu.out.setCell (p := ⟨gl, k, none⟩) HGL.out.2.2.2 _
            clear hsr hz
            go_wp2_with fail
            go_roundw
            case rel => exact ⟨k + 1, by omega, by go_num, HKGf, HKOf, HKIf, HKHf, HBf⟩
            case measure => simp [intOf]; omega
          case pos => as_aux_lemma =>
            have hljD : decide (j < T) = true := by simp [hlj]
            obtain ⟨b2, o2, hA2, _, q0⟩ := HRT7.out.int_at hlj
            obtain ⟨tj', htj⟩ : ∃ tj', e.ts[j]? = some tj' := ⟨_, List.getElem?_eq_getElem (by have := HTT.out; omega)⟩
            obtain ⟨t0, t1⟩ := HOKE.out.ts tj' (List.mem_of_getElem? htj)
            obtain ⟨tj, rfl⟩ := Int.eq_ofNat_of_zero_le t0
            have htjN : tj < N := by omega
            rw [htj] at q0
            simp only [Option.getD_some] at q0
            subst hA2
            have HOT : Hid (oth (inC U) e.ts (-1) (j + 1) = oth (inC U) e.ts (-1) j + inC U tj) := by
              have h : oth (inC U) e.ts (-1) (j + 1) = oth (inC U) e.ts (-1) j + (if (j : Int) = -1 then 0 else inC U ((e.ts[j]?.getD 0).toNat)) := rfl
              rw [htj, if_neg (by omega)] at h
              exact h
            have hnn := oth_nn (fun i => (inC_ord HSO.out.nrm i).1) e.ts (-1) j
            have hij := inC_ord HSO.out.nrm tj
            have HC2 : Hid (mn (s + inC U tj) = mn (o + e.cost + oth (inC U) e.ts (-1) (j + 1))) := by
              show _ = _
              rw [HOT.out, HC.out, mn_add hij.1, Int.add_assoc (o + e.cost)]
            have x1 : w7.cell? ⟨g, tj, none⟩ = some (.int .i64 (inC U tj)) := HKIu.out.gint (HIL.out.2 tj htjN)
            have hs0 : 0 ≤ s ∧ s ≤ 1099511627776 := by rw [HC.out]; exact ⟨mn_nn (by have := HO1.out.1; have := HOKE.out.cost.1; omega), mn_le _⟩
            obtain ⟨y, hy⟩ : ∃ y, inC U tj = y := ⟨_, rfl⟩
            rw [hy] at x1 HC2 hij
            have HPL := Lib.hid (plus_any s y hs0 hij w7)
            clear hnn htj HOT t0 t1 hij hs0 hy
            go_wp2_with fail
            refine HPL.out.mono ?_
            rintro e5 w5 ⟨rfl, rfl⟩
            go_wp2_with fail
            go_round
            case rel => exact ⟨j + 1, _, by omega, by go_num, rfl, HC2⟩
            case measure => simp [intOf]; omega
end Go.Proofs.Ytbalhkbpmahkgaa

namespace Go.Proofs.Ytbalhkbpmahkgaa
open Go.RowKit

theorem results_hg {fn : Func} {p : Tmp} (h : fn.results = #[.cell p 24]) {tmps : Array Value} {b o n c : Nat} {A : Option Addr} (hp : tmps.getD p undef = .pointer (some ⟨b, o, none⟩)) {w : World} {x : Int}
    (h0 : w.cell? ⟨b, o, none⟩ = some (.int .i64 x)) (h1 : w.cell? ⟨b, o + 1, none⟩ = some (.slice A n c)) : (results fn tmps).run Try.prog w = .ok (.agg #[.int .i64 x, .slice A n c]) w := by
  rw [results_cell h tmps _ hp]
  simp [go_sem, h0, h1]
/-- The example's hyperedges, wherever their tails lie. -/
def exE (a b : Nat) : List Ed := [⟨0, [1, 2], 1, 0, 0, some ⟨a, 0, none⟩, 2⟩, ⟨1, [], 2, 0, 0, none, 0⟩, ⟨2, [], 3, 0, 0, none, 0⟩, ⟨0, [2], 9, 0, 0, some ⟨b, 0, none⟩, 1⟩]
theorem exE_ok (a b : Nat) : ∀ e ∈ exE a b, e.Ok 3 := fun e he => by
  simp only [exE, List.mem_cons, List.not_mem_nil, or_false] at he
  rcases he with rfl | rfl | rfl | rfl
  · exact ⟨show (0 : Int) ≤ 0 ∧ (0 : Int) < (3 : Nat) by decide, show (0 : Int) ≤ 1 ∧ (1 : Int) ≤ 1099511627776 by decide, show ∀ t ∈ ([1, 2] : List Int), 0 ≤ t ∧ t < (3 : Nat) by decide, show ([1, 2] : List Int).length ≤ 4 by decide⟩
  · exact ⟨by decide, by decide, by decide, by decide⟩
  · exact ⟨by decide, by decide, by decide, by decide⟩
  · exact ⟨show (0 : Int) ≤ 0 ∧ (0 : Int) < (3 : Nat) by decide, show (0 : Int) ≤ 9 ∧ (9 : Int) ≤ 1099511627776 by decide, show ∀ t ∈ ([2] : List Int), 0 ≤ t ∧ t < (3 : Nat) by decide, show ([2] : List Int).length ≤ 4 by decide⟩
def exV : List Vl := [⟨6, 3⟩, ⟨2, 1⟩, ⟨3, 1⟩]
theorem case3 (P : Nat → Prop) (p0 : P 0) (p1 : P 1) (p2 : P 2) (p3 : ∀ i, 3 ≤ i → P i) : ∀ i, P i := fun i => by
  rcases i with _ | _ | _ | i
  · exact p0
  · exact p1
  · exact p2
  · exact p3 _ (by omega)
theorem exV_out (i : Nat) (hi : 3 ≤ i) : gv exV i = vtop := by
  rw [gv, List.getElem?_eq_none (by simpa [exV] using hi)]; rfl
theorem exE_sol (a b : Nat) : Sol (exE a b) (gv exV) := by
  refine Sol.of_att (exE_ok a b) ?_ ?_ ?_ ?_
  · refine case3 _ ⟨⟨by decide, by decide, by decide, by decide⟩, by decide⟩ ⟨⟨by decide, by decide, by decide, by decide⟩, by decide⟩ ⟨⟨by decide, by decide, by decide, by decide⟩, by decide⟩ fun i hi => ?_
    rw [exV_out i hi]; exact Nrm.top
  · intro e he
    simp only [exE, List.mem_cons, List.not_mem_nil, or_false] at he
    rcases he with rfl | rfl | rfl | rfl
    · exact .inr ⟨show (gv exV 0).c = (comb 1 (tlv (gv exV) [1, 2])).c by decide, show (gv exV 0).s ≤ (comb 1 (tlv (gv exV) [1, 2])).s by decide⟩
    · exact .inr ⟨by decide, by decide⟩
    · exact .inr ⟨by decide, by decide⟩
    · exact .inl (show (gv exV 0).c < (comb 9 (tlv (gv exV) [2])).c by decide)
  · refine case3 _ (by decide) (by decide) (by decide) fun i hi => ?_
    rw [exV_out i hi]; decide
  · refine case3 _ (fun _ => ⟨_, List.mem_of_getElem? (i := 0) rfl, rfl, att_iff.2 ⟨show (gv exV 0).c < 1099511627776 by decide, show comb 1 (tlv (gv exV) [1, 2]) = gv exV 0 from rfl⟩⟩) (fun _ => ⟨_, List.mem_of_getElem? (i := 1) rfl, rfl, by decide⟩) (fun _ => ⟨_, List.mem_of_getElem? (i := 2) rfl, rfl, by decide⟩) fun i hi h => ?_
    rw [exV_out i hi] at h
    exact absurd h (by decide)
def exO : List Int := [0, 4, 3]
theorem exO_sol (a b : Nat) : OSol (exE a b) (inC (gv exV)) 0 3 (gi exO) := by
  refine ⟨⟨?_, ?_, ?_⟩, fun i hi => gi_out (by simpa [exO] using hi), ?_⟩
  · refine case3 _ (by decide) (by decide) (by decide) fun i hi => ?_
    rw [gi_out (by simpa [exO] using hi)]; decide
  · intro i _ h
    have : i = 0 := by omega
    subst this
    rfl
  · intro e he k t hk
    simp only [exE, List.mem_cons, List.not_mem_nil, or_false] at he
    rcases he with rfl | rfl | rfl | rfl
    · rcases k with _ | _ | k
      · obtain rfl : t = 1 := by simpa using hk.symm
        show gi exO 1 ≤ mn (gi exO 0 + 1 + oth (inC (gv exV)) [1, 2] (0 : Nat) 2)
        decide
      · obtain rfl : t = 2 := by simpa using hk.symm
        show gi exO 2 ≤ mn (gi exO 0 + 1 + oth (inC (gv exV)) [1, 2] (1 : Nat) 2)
        decide
      · simp at hk
    · simp at hk
    · simp at hk
    · rcases k with _ | k
      · obtain rfl : t = 2 := by simpa using hk.symm
        show gi exO 2 ≤ mn (gi exO 0 + 9 + oth (inC (gv exV)) [2] (0 : Nat) 1)
        decide
      · simp at hk
  · intro G hG
    have h0 : G 0 = 0 := hG.root 0 (by decide) rfl
    have h1 : G 1 ≤ mn (G 0 + 1 + oth (inC (gv exV)) [1, 2] (0 : Nat) 2) := hG.le _ (List.mem_of_getElem? (i := 0) rfl) 0 1 rfl
    have h2 : G 2 ≤ mn (G 0 + 1 + oth (inC (gv exV)) [1, 2] (1 : Nat) 2) := hG.le _ (List.mem_of_getElem? (i := 0) rfl) 1 2 rfl
    have e1 : oth (inC (gv exV)) [1, 2] (0 : Nat) 2 = 3 := by decide
    have e2 : oth (inC (gv exV)) [1, 2] (1 : Nat) 2 = 2 := by decide
    rw [h0, e1] at h1
    rw [h0, e2] at h2
    refine case3 _ ?_ ?_ ?_ fun i hi => ?_
    · rw [h0]; decide
    · exact Int.le_trans h1 (by decide)
    · exact Int.le_trans h2 (by decide)
    · rw [gi_out (by simpa [exO] using hi)]; exact (hG.ord i).2
theorem exO_is {a b : Nat} {l : List Int} (h : IsOut (exE a b) 0 3 l) (hl : l.length = 3) : l = [0, 4, 3] := h.uniq ⟨_, exE_sol a b, exO_sol a b⟩ hl rfl
theorem exT_is {a b : Nat} {l : List Int} (h : IsThr (exE a b) 0 3 l) (hl : l.length = 3) : l = [6, 6, 6] :=
  h.uniq ⟨_, _, exE_sol a b, exO_sol a b, fun i hi => by
    rcases i with _ | _ | _ | i
    · rfl
    · rfl
    · rfl
    · omega⟩ hl rfl
theorem exET_is {a b : Nat} {l : List Int} (h : IsEth (exE a b) 0 3 l) (hl : l.length = 4) : l = [6, 6, 6, 12] :=
  h.uniq ⟨_, _, exE_sol a b, exO_sol a b, fun k e hk => by
    rcases k with _ | _ | _ | _ | k
    · obtain rfl : (⟨0, [1, 2], 1, 0, 0, some ⟨a, 0, none⟩, 2⟩ : Ed) = e := by simpa [exE] using hk
      rfl
    · obtain rfl : (⟨1, [], 2, 0, 0, none, 0⟩ : Ed) = e := by simpa [exE] using hk
      rfl
    · obtain rfl : (⟨2, [], 3, 0, 0, none, 0⟩ : Ed) = e := by simpa [exE] using hk
      rfl
    · obtain rfl : (⟨0, [2], 9, 0, 0, some ⟨b, 0, none⟩, 1⟩ : Ed) = e := by simpa [exE] using hk
      rfl
    · simp [exE] at hk⟩ (by rw [hl]; rfl) rfl

set_option maxHeartbeats 1000000 in
theorem example_any (w : World) : Calls Try.prog 26 #[] w fun e w' => ∃ (a b : Nat) (E : Option Addr), e = .returned (.agg #[.int .i64 (3 : Nat), .slice E (exE a b).length 4]) ∧ HG w' w'.heap.size E (exE a b).length (exE a b) ∧ Below w.heap.size w w' := by
  go_enter Try.func26, Try.ntmps26
  go_wp2_with fail
  obtain ⟨N, hN⟩ : ∃ N, w.heap.size = N := ⟨_, rfl⟩
  have hb : Below w.heap.size w ((((w.alloc (.cells #[.int .i64 3, .slice (some ⟨N + 1 + 1 + 1, 0, none⟩) 4 4] 24)).alloc (.cells #[.int .i64 1, .int .i64 2] 3)).alloc (.cells #[.int .i64 2] 3)).alloc (.cells (eds (exE (N + 1) (N + 1 + 1))).toArray 48)) := ((((Below.refl _ _).alloc (Nat.le_refl _) _).alloc (by simp) _).alloc (by simp; omega) _).alloc (by simp; omega) _
  rw [hN] at hb ⊢
  have K0 : Blk ((((w.alloc (.cells #[.int .i64 3, .slice (some ⟨N + 1 + 1 + 1, 0, none⟩) 4 4] 24)).alloc (.cells #[.int .i64 1, .int .i64 2] 3)).alloc (.cells #[.int .i64 2] 3)).alloc (.cells (eds (exE (N + 1) (N + 1 + 1))).toArray 48)) N 24 #[.int .i64 3, .slice (some ⟨N + 1 + 1 + 1, 0, none⟩) 4 4] := (((Blk.new' w _ _ hN).alloc _).alloc _).alloc _
  have K1 : Blk ((((w.alloc (.cells #[.int .i64 3, .slice (some ⟨N + 1 + 1 + 1, 0, none⟩) 4 4] 24)).alloc (.cells #[.int .i64 1, .int .i64 2] 3)).alloc (.cells #[.int .i64 2] 3)).alloc (.cells (eds (exE (N + 1) (N + 1 + 1))).toArray 48)) (N + 1) 3 #[.int .i64 1, .int .i64 2] := ((Blk.new' _ _ _ (by simp; omega)).alloc _).alloc _
  have K2 : Blk ((((w.alloc (.cells #[.int .i64 3, .slice (some ⟨N + 1 + 1 + 1, 0, none⟩) 4 4] 24)).alloc (.cells #[.int .i64 1, .int .i64 2] 3)).alloc (.cells #[.int .i64 2] 3)).alloc (.cells (eds (exE (N + 1) (N + 1 + 1))).toArray 48)) (N + 1 + 1) 3 #[.int .i64 2] := (Blk.new' _ _ _ (by simp; omega)).alloc _
  have K3 : Blk ((((w.alloc (.cells #[.int .i64 3, .slice (some ⟨N + 1 + 1 + 1, 0, none⟩) 4 4] 24)).alloc (.cells #[.int .i64 1, .int .i64 2] 3)).alloc (.cells #[.int .i64 2] 3)).alloc (.cells (eds (exE (N + 1) (N + 1 + 1))).toArray 48)) (N + 1 + 1 + 1) 48 (eds (exE (N + 1) (N + 1 + 1))).toArray := Blk.new' _ _ _ (by simp; omega)
  refine bodyPost_ret (results_hg rfl rfl (K0.cell 0) (K0.cell 1)) rfl ⟨N + 1, N + 1 + 1, some ⟨N + 1 + 1 + 1, 0, none⟩, rfl, ⟨Reads.of_blk K3 K3.lt (by simp) rfl, fun e he => ?_⟩, hb⟩
  simp only [exE, List.mem_cons, List.not_mem_nil, or_false] at he
  rcases he with rfl | rfl | rfl | rfl
  · exact Reads.of_blk K1 K1.lt rfl rfl
  · exact Reads.nil_
  · exact Reads.nil_
  · exact Reads.of_blk K2 K2.lt rfl rfl
theorem same_b {w : World} {g g' n : Nat} {l : List Int} (h : Blk w g 3 (ints l).toArray) (h' : Blk w g' 3 (ints l).toArray) (hl : l.length = n) (hn : n ≤ 1000000) : Calls Try.prog 12 #[.slice (some ⟨g, 0, none⟩) n n, .slice (some ⟨g', 0, none⟩) n n] w fun e w' => e = .returned (.bool true) ∧ Below w.heap.size w w' :=
  samei_any w (some ⟨g, 0, none⟩) (some ⟨g', 0, none⟩) n n n w.heap.size w.heap.size l (Reads.of_blk h h.lt (by simp) (by simp [ints, hl])) (Reads.of_blk h' h'.lt (by simp) (by simp [ints, hl])) hn

set_option maxRecDepth 100000 in
set_option maxHeartbeats 2000000 in
theorem awake_any (w : World) : Calls Try.prog 10 #[] w fun e w' => e = .returned (.bool true) ∧ Below w.heap.size w w' := by
  go_enter Try.func10, Try.ntmps10
  go_wp2_with fail
  refine (example_any w).mono ?_
  rintro e w1 ⟨a, b, E, rfl, hg, hb1⟩
  have HG1 := Lib.hid hg
  have HB1 := Lib.hid hb1
  clear hg hb1
  obtain ⟨w2, hw2⟩ : ∃ w2, w1.alloc (.cells #[.int .i64 3, .slice E (exE a b).length 4] 24) = w2 := ⟨_, rfl⟩
  obtain ⟨be, hbe⟩ : ∃ be, w1.heap.size = be := ⟨_, rfl⟩
  have hx2 : Below w1.heap.size w1 w2 := by rw [← hw2]; exact (Below.refl _ _).alloc (Nat.le_refl _) _
  have HK2 : Hid (Blk w2 be 24 #[.int .i64 3, .slice E 4 4]) := by rw [← hw2, ← hbe]; exact Blk.new' w1 _ _ rfl
  have HG2 : Hid (HG w2 w1.heap.size E (exE a b).length (exE a b)) := HG1.out.below hx2
  have HB2 : Hid (Below w.heap.size w w2) := HB1.out.trans (hx2.mono HB1.out.size)
  have HZ : Hid (w1.heap.size ≤ w2.heap.size) := hx2.size
  have HC1 : Hid (∀ w9, Below w2.heap.size w2 w9 → Calls Try.prog 13 #[.agg #[.int .i64 3, .slice E 4 4], .int .i64 0] w9 (RetL 3 (IsOut (exE a b) 0 3) w9)) := fun w9 h9 =>
    poutside_any w9 3 4 w1.heap.size E (exE a b) 0 (HG2.out.below (h9.mono HZ.out)) (Nat.le_trans HZ.out h9.size) (exE_ok a b) (by decide) (by decide) (by simp [exE])
  have HC2 : Hid (∀ w9, Below w2.heap.size w2 w9 → Calls Try.prog 15 #[.agg #[.int .i64 3, .slice E 4 4], .int .i64 0] w9 (RetL 3 (IsThr (exE a b) 0 3) w9)) := fun w9 h9 =>
    pthrough_any w9 3 4 w1.heap.size E (exE a b) 0 (HG2.out.below (h9.mono HZ.out)) (Nat.le_trans HZ.out h9.size) (exE_ok a b) (by decide) (by decide) (by simp [exE])
  have HC3 : Hid (∀ w9, Below w2.heap.size w2 w9 → Calls Try.prog 17 #[.agg #[.int .i64 3, .slice E 4 4], .int .i64 0] w9 (RetL 4 (IsEth (exE a b) 0 3) w9)) := fun w9 h9 =>
    pedge_any w9 3 4 w1.heap.size E (exE a b) 0 (HG2.out.below (h9.mono HZ.out)) (Nat.le_trans HZ.out h9.size) (exE_ok a b) (by decide) (by decide) (by simp [exE])
  go_upto_region 2 with fail
  try simp only [exE, List.length_cons, List.length_nil] at hw2
  try rw [hw2]
  try rw [hbe]
  clear hw2 hbe hx2 HG1 HB1
  have c0 : w2.cell? ⟨be, 0, none⟩ = some (.int .i64 3) := HK2.out.cell 0
  have c1 : w2.cell? ⟨be, 1, none⟩ = some (.slice E 4 4) := HK2.out.cell 1
  have B2 : Below w2.heap.size w2 w2 := Below.refl _ _
  go_wp2_with fail
  clear c0 c1
  refine (HC1.out _ B2).mono ?_
  rintro e w3 ⟨g3, l3, rfl, hl, k, ho, hg, hb⟩
  obtain rfl := exO_is ho hl
  have X3 : Below w2.heap.size w2 w3 := B2.trans (hb.mono B2.size)
  have K3 := Lib.hid k
  clear hl k ho hg hb
  have Y3 : Below w2.heap.size w2 (w3.alloc (.cells #[.int .i64 0, .int .i64 4, .int .i64 3] 3)) := X3.alloc X3.size _
  have Z3 : Hid (Blk (w3.alloc (.cells #[.int .i64 0, .int .i64 4, .int .i64 3] 3)) w3.heap.size 3 (ints [0, 4, 3]).toArray) := Blk.new' w3 _ _ rfl
  have K3a : Hid (Blk (w3.alloc (.cells #[.int .i64 0, .int .i64 4, .int .i64 3] 3)) g3 3 (ints [0, 4, 3]).toArray) := K3.out.alloc _
  go_wp2_with fail
  refine (same_b K3a.out Z3.out rfl (by decide)).mono ?_
  rintro e w3s ⟨rfl, hb⟩
  have W3 : Below w2.heap.size w2 w3s := Y3.trans (hb.mono Y3.size)
  clear hb X3 K3 Y3 Z3 K3a
  have c0 : w3s.cell? ⟨be, 0, none⟩ = some (.int .i64 3) := (HK2.out.below W3 HK2.out.lt).cell 0
  have c1 : w3s.cell? ⟨be, 1, none⟩ = some (.slice E 4 4) := (HK2.out.below W3 HK2.out.lt).cell 1
  go_wp2_with fail
  clear c0 c1
  refine (HC2.out _ W3).mono ?_
  rintro e w4 ⟨g4, l4, rfl, hl, k, ho, hg, hb⟩
  obtain rfl := exT_is ho hl
  have X4 : Below w2.heap.size w2 w4 := W3.trans (hb.mono W3.size)
  have K4 := Lib.hid k
  clear hl k ho hg hb
  have Y4 : Below w2.heap.size w2 (w4.alloc (.cells #[.int .i64 6, .int .i64 6, .int .i64 6] 3)) := X4.alloc X4.size _
  have Z4 : Hid (Blk (w4.alloc (.cells #[.int .i64 6, .int .i64 6, .int .i64 6] 3)) w4.heap.size 3 (ints [6, 6, 6]).toArray) := Blk.new' w4 _ _ rfl
  have K4a : Hid (Blk (w4.alloc (.cells #[.int .i64 6, .int .i64 6, .int .i64 6] 3)) g4 3 (ints [6, 6, 6]).toArray) := K4.out.alloc _
  go_wp2_with fail
  refine (same_b K4a.out Z4.out rfl (by decide)).mono ?_
  rintro e w4s ⟨rfl, hb⟩
  have W4 : Below w2.heap.size w2 w4s := Y4.trans (hb.mono Y4.size)
  clear hb X4 K4 Y4 Z4 K4a
  have c0 : w4s.cell? ⟨be, 0, none⟩ = some (.int .i64 3) := (HK2.out.below W4 HK2.out.lt).cell 0
  have c1 : w4s.cell? ⟨be, 1, none⟩ = some (.slice E 4 4) := (HK2.out.below W4 HK2.out.lt).cell 1
  go_wp2_with fail
  clear c0 c1
  refine (HC3.out _ W4).mono ?_
  rintro e w5 ⟨g5, l5, rfl, hl, k, ho, hg, hb⟩
  obtain rfl := exET_is ho hl
  have X5 : Below w2.heap.size w2 w5 := W4.trans (hb.mono W4.size)
  have K5 := Lib.hid k
  clear hl k ho hg hb
  have Y5 : Below w2.heap.size w2 (w5.alloc (.cells #[.int .i64 6, .int .i64 6, .int .i64 6, .int .i64 12] 3)) := X5.alloc X5.size _
  have Z5 : Hid (Blk (w5.alloc (.cells #[.int .i64 6, .int .i64 6, .int .i64 6, .int .i64 12] 3)) w5.heap.size 3 (ints [6, 6, 6, 12]).toArray) := Blk.new' w5 _ _ rfl
  have K5a : Hid (Blk (w5.alloc (.cells #[.int .i64 6, .int .i64 6, .int .i64 6, .int .i64 12] 3)) g5 3 (ints [6, 6, 6, 12]).toArray) := K5.out.alloc _
  go_wp2_with fail
  refine (same_b K5a.out Z5.out rfl (by decide)).mono ?_
  rintro e w5s ⟨rfl, hb⟩
  have W5 : Below w2.heap.size w2 w5s := Y5.trans (hb.mono Y5.size)
  clear hb X5 K5 Y5 Z5 K5a
  go_wp2_with fail
  go_ret
  exact ⟨rfl, HB2.out.trans (W5.mono HB2.out.size)⟩
end Go.Proofs.Ytbalhkbpmahkgaa

namespace Go.Proofs.Ytbalhkbpmahkgaa
open Go.RowKit

theorem small33_any (w : World) (Z : Int) (ce B : Nat) (E : Option Addr) (es : List Ed) (hE : HG w B E es.length es) (hB : B ≤ w.heap.size) :
    Calls Try.prog 11 #[.agg #[.int .i64 Z, .slice E es.length ce]] w (RetIf (IsShort Z es) w) := by
  have HE := Lib.hid (hE.more hB)
  clear hE
  obtain ⟨M, hMM⟩ : ∃ M, es.length = M := ⟨_, rfl⟩
  rw [hMM] at HE ⊢
  have HMM := Lib.hid hMM
  clear hMM
  go_enter Try.func11, Try.ntmps11
  go_wp2_with fail
  have hb1 : Below w.heap.size w (w.alloc (.cells #[.int .i64 Z, .slice E M ce] 24)) := (Below.refl _ _).alloc (Nat.le_refl _) _
  have hs := short_any (w.alloc (.cells #[.int .i64 Z, .slice E M ce] 24)) Z ce w.heap.size E es (by rw [HMM.out]; exact HE.out.below hb1) hb1.size
  rw [HMM.out] at hs
  refine hs.mono ?_
  rintro e w2 ⟨b, rfl, hb, hbw⟩
  have HB := Lib.hid hb
  clear hs hb
  go_wp2_with fail
  go_ret
  exact ⟨b, rfl, HB.out, hb1.trans (hbw.mono hb1.size)⟩
end Go.Proofs.Ytbalhkbpmahkgaa
