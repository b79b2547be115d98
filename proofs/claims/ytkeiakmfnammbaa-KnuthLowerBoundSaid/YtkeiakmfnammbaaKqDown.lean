/- An entry moved away from the root. -/
import Derived.Test.YtkeiakmfnammbaaKqUp
import Derived.Deep.DeepCutAuto
import Derived.Deep.CutBlock
namespace Go.Proofs.Ytkeiakmfnammbaa
open Go.RowKit

/-- The least of an entry and those of its children that were looked at. -/
structure Least (l : List Ent) (j m k : Nat) : Prop where
  ml : m < l.length
  or : m = j ∨ (0 < m ∧ (m - 1) / 2 = j ∧ ∃ x y, l[m]? = some x ∧ l[j]? = some y ∧ bf x y = true)
  own : LeAt bf l m j
  all : ∀ c, 2 * j + 1 ≤ c → c < k → c < l.length → LeAt bf l m c
theorem Least.start {l : List Ent} {j : Nat} (h : j < l.length) : Least l j j (2 * j + 1) := ⟨h, .inl rfl, LeAt.refl bf_ord l j, fun c h1 h2 => absurd h1 (by omega)⟩
theorem Least.keep {l : List Ent} {j m k : Nat} (h : Least l j m k) {x y : Ent} (hx : l[k]? = some x) (hy : l[m]? = some y) (hb : bf x y = false) : Least l j m (k + 1) := by
  refine ⟨h.ml, h.or, h.own, fun c h1 h2 h3 => ?_⟩
  rcases Nat.lt_or_ge c k with h4 | h4
  · exact h.all c h1 h4 h3
  · obtain rfl : c = k := by omega
    intro a b ha hb'
    rw [hy] at ha
    rw [hx] at hb'
    injection ha with ha
    injection hb' with hb'
    subst ha hb'
    exact hb
theorem Least.take {l : List Ent} {j m k : Nat} (h : Least l j m k) (hk : 2 * j + 1 ≤ k) (hk2 : k ≤ 2 * j + 2) {x y : Ent} (hx : l[k]? = some x) (hy : l[m]? = some y) (hb : bf x y = true) : Least l j k (k + 1) := by
  have hkl := (List.getElem?_eq_some_iff.1 hx).1
  have hyx := bf_ord.asym hb
  have hkm : LeAt bf l k m := fun a b ha hb' => by
    rw [hx] at ha
    rw [hy] at hb'
    injection ha with ha
    injection hb' with hb'
    subst ha hb'
    exact hyx
  have hkj := hkm.trans bf_ord h.ml h.own
  have hjl : j < l.length := by omega
  refine ⟨hkl, .inr ⟨by omega, by omega, x, _, hx, List.getElem?_eq_getElem hjl, ?_⟩, hkj, fun c h1 h2 h3 => ?_⟩
  · cases hbf : bf x l[j] with
    | true => rfl
    | false =>
      have h1 := h.own y _ hy (List.getElem?_eq_getElem hjl)
      have := bf_ord.trans h1 hbf
      rw [hb] at this
      exact this.symm
  · rcases Nat.lt_or_ge c k with h4 | h4
    · exact hkm.trans bf_ord h.ml (h.all c h1 h4 h3)
    · obtain rfl : c = k := by omega
      exact LeAt.refl bf_ord l c
theorem Least.kids {l : List Ent} {j m k : Nat} (h : Least l j m k) (hk : 2 * j + 2 < k ∨ l.length ≤ k) : ∀ c, 0 < c → c < l.length → (c - 1) / 2 = j → LeAt bf l m c := fun c h0 hl hc => h.all c (by omega) (by omega) hl

set_option maxRecDepth 100000 in
set_option maxHeartbeats 2000000 in
theorem down_any (w : World) (q g c b nx ck : Nat) (l : List Ent) (f : Int → Option Nat) (i : Nat) (hi : i < l.length ∨ (i = 0 ∧ l = [])) (h : QR w q g c b l nx ck f) (hA : Agree l f) (hn : nx ≤ 1000000000) (hll : l.length ≤ 1000000000) (hh : HB l) (hD : Down bf l i) :
    Calls Try.prog 39 #[.pointer (some ⟨q, 0, none⟩), .int .i64 i] w fun e w' => ∃ v l' f', e = .returned v ∧
      QR w' q g c b l' nx ck f' ∧ Agree l' f' ∧ l'.Perm l ∧ HeapOrd bf l' ∧ Touch (fun k => k = g ∨ k = b) w w' := by
  have HQ := Lib.hid h
  have HA := Lib.hid hA
  have HH := Lib.hid hh
  have HD := Lib.hid hD
  have HI := Lib.hid hi
  clear h hA hh hD hi
  go_enter Try.func39, Try.ntmps39
  go_wp2_with fail
  go_loopw [1] (fun a wr => ∃ (j : Nat) (l' : List Ent) (f' : Int → Option Nat), a = .int .i64 j ∧ Hid (j < l'.length ∨ (j = 0 ∧ l' = [])) ∧ Hid (QR wr q g c b l' nx ck f') ∧ Hid (Agree l' f') ∧ Hid (l'.Perm l) ∧ Hid (Down bf l' j) ∧ Touch (fun k => k = g ∨ k = b) w wr) (fun a _ => l.length - (intOf a).toNat)
  case atStart => exact ⟨i, l, f, rfl, HI, HQ, HA, Lib.hid (List.Perm.refl _), HD, Touch.refl _ _⟩
  case round =>
    obtain ⟨j, l', f', rfl, HJ, HQ1, HA1, HP1, HD1, T1⟩ := hrel
    clear HQ HA HD HI
    have hlen := HP1.out.length_eq
    have hj2 : j ≤ 1000000000 := by rcases HJ.out with h | ⟨h, _⟩ <;> omega
    have v1 : IntKind.i64.wrap (2 * (j : Int)) = 2 * (j : Int) := IntWalk.i64_in _ (by omega)
    have v2 : IntKind.i64.wrap (2 * (j : Int) + 1) = 2 * (j : Int) + 1 := IntWalk.i64_in _ (by omega)
    have v3 : IntKind.i64.wrap (2 * (j : Int) + 2) = 2 * (j : Int) + 2 := IntWalk.i64_in _ (by omega)
    go_upto_block 2 with fail
    go_cut [4, 5] (fun a4 a5 wx => ∃ m k : Nat, a4 = .int .i64 m ∧ a5 = .int .i64 k ∧ Hid ((j < l'.length ∧ Least l' j m k) ∨ (l' = [] ∧ m = j)) ∧ Hid (2 * j + 2 < k ∨ l'.length ≤ k) ∧ Below wr.heap.size wr wx)
    case first =>
      go_wp2_with fail
      go_loopw [4, 5] (fun a4 a5 wx => ∃ m k : Nat, a4 = .int .i64 m ∧ a5 = .int .i64 k ∧ 2 * j + 1 ≤ k ∧ k ≤ 2 * j + 3 ∧ Hid ((j < l'.length ∧ Least l' j m k) ∨ (l' = [] ∧ m = j)) ∧ Below wr.heap.size wr wx) (fun _ a5 _ => 2 * j + 3 - (intOf a5).toNat)
      case atStart =>
        refine ⟨j, 2 * j + 1, rfl, by first | rfl | go_num, Nat.le_refl _, by omega, Lib.hid ?_, Below.refl _ _⟩
        rcases HJ.out with h | ⟨h, h2⟩
        · exact .inl ⟨h, Least.start h⟩
        · exact .inr ⟨h2, rfl⟩
      case round =>
        obtain ⟨m, k, rfl, rfl, hk1, hk2, HL, hbx⟩ := hrel
        rename World => wx
        have HQx := Lib.hid (HQ1.out.below hbx)
        have q1 := HQx.out.1.cell 1
        simp at q1
        by_cases hk3 : k ≤ 2 * j + 2
        case neg =>
          have hkD : decide ((k : Int) ≤ 2 * (j : Int) + 2) = false := by simp; omega
          go_wp2_with fail
          go_meet
          exact ⟨m, k, rfl, rfl, HL, Lib.hid (.inl (by omega)), hbx⟩
        case pos =>
          have hkD : decide ((k : Int) ≤ 2 * (j : Int) + 2) = true := by simp; omega
          by_cases hkl : k < l'.length
          case neg =>
            have hlD : decide (k < l'.length) = false := by simp [hkl]
            go_wp2_with fail
            go_meet
            exact ⟨m, k, rfl, rfl, HL, Lib.hid (.inr (by omega)), hbx⟩
          case pos =>
            have hlD : decide (k < l'.length) = true := by simp [hkl]
            obtain ⟨hjl, hL⟩ : j < l'.length ∧ Least l' j m k := by
              rcases HL.out with h | ⟨h, _⟩
              · exact h
              · rw [h] at hkl; simp at hkl
            have HLL := Lib.hid hL
            have hml := hL.ml
            obtain ⟨x, hx⟩ : ∃ x, l'[k]? = some x := ⟨_, List.getElem?_eq_getElem hkl⟩
            obtain ⟨y, hy⟩ : ∃ y, l'[m]? = some y := ⟨_, List.getElem?_eq_getElem hml⟩
            have HX := Lib.hid hx
            have HY := Lib.hid hy
            have u1 : IntKind.i64.wrap ((k : Int) + 1) = (k : Int) + 1 := IntWalk.i64_in _ (by omega)
            clear hx hy hL HL
            go_wp2_with fail
            refine (before_any wx q g c nx ck (.map (some b)) l' k m x y HQx.out.1 HQx.out.2.1 HX.out HY.out).mono ?_
            rintro e w1 ⟨rfl, hb1⟩
            have hb2 : Below wr.heap.size wr w1 := hbx.trans (hb1.mono hbx.size)
            clear q1
            cases hbf : bf x y with
            | false =>
              have HN := Lib.hid (HLL.out.keep HX.out HY.out hbf)
              go_wp2_with fail
              go_roundw
              case rel => exact ⟨m, k + 1, rfl, by first | rfl | go_num, by omega, by omega, Lib.hid (.inl ⟨hjl, HN.out⟩), hb2⟩
              case measure => simp [intOf]; omega
            | true =>
              have HN := Lib.hid (HLL.out.take hk1 hk3 HX.out HY.out hbf)
              go_wp2_with fail
              go_roundw
              case rel => exact ⟨k, k + 1, rfl, by first | rfl | go_num, by omega, by omega, Lib.hid (.inl ⟨hjl, HN.out⟩), hb2⟩
              case measure => simp [intOf]; omega
    case rest =>
      obtain ⟨m, k, rfl, rfl, HL, HK, hbx⟩ := hcut
      rename World => wx
      have HQx := Lib.hid (HQ1.out.below hbx)
      have T2 := T1.below hbx
      clear HQ1 T1 hbx v1 v2 v3
      by_cases hmj : m = j
      case pos =>
        subst hmj
        have hmm : ((m : Int) == (m : Int)) = true := beq_self_eq_true _
        go_wp2_with fail
        refine bodyPost_ret (results_none rfl _ _ _) rfl ?_
        refine ⟨⟨_, rfl⟩, l', f', HQx.out, HA1.out, HP1.out, HD1.out.heap ?_, T2⟩
        rcases HL.out with ⟨_, h⟩ | ⟨h, _⟩
        · exact h.kids HK.out
        · rw [h]; intro c h0 hl; simp at hl
      case neg =>
        have hmm : ((m : Int) == (j : Int)) = false := by rw [beq_eq_false_iff_ne]; omega
        obtain ⟨hjl, hL⟩ : j < l'.length ∧ Least l' j m k := by
          rcases HL.out with h | ⟨_, h⟩
          · exact h
          · exact absurd h hmj
        have HLL := Lib.hid hL
        have hml := hL.ml
        obtain ⟨hm0, hmp, x, y, hx, hy, hbf⟩ : 0 < m ∧ (m - 1) / 2 = j ∧ ∃ x y, l'[m]? = some x ∧ l'[j]? = some y ∧ bf x y = true := hL.or.resolve_left hmj
        have HX := Lib.hid hx
        have HY := Lib.hid hy
        have HBF := Lib.hid hbf
        have HMP := Lib.hid hmp
        clear hx hy hL HL hbf hmp
        go_wp2_with fail
        refine (swap_any wx q g c b nx ck l' f' j m y x HQx.out.1 HQx.out.2.1 HQx.out.2.2 HA1.out HY.out HX.out hn (by omega) ⟨(HH.out.perm HP1.out) y (List.mem_of_getElem? HY.out), (HH.out.perm HP1.out) x (List.mem_of_getElem? HX.out)⟩).mono ?_
        rintro e w2 ⟨v, rfl, K3, O3, M3, T3⟩
        have HQ3 := Lib.hid (show QR w2 q g c b (swp l' j m) nx ck _ from ⟨K3, O3, M3⟩)
        have HA3 := Lib.hid (swap_agree HA1.out HY.out HX.out)
        have HD3 := Lib.hid (HD1.out.down bf_ord hm0 hml HMP.out HY.out HX.out HBF.out (HLL.out.kids HK.out))
        clear K3 O3 M3
        have T4 := T2.trans T3 (fun k h => .inl h)
        go_wp2_with fail
        go_roundw
        case rel => exact ⟨m, swp l' j m, _, rfl, Lib.hid (.inl (by rw [swp_length]; exact hml)), HQ3, HA3, Lib.hid ((swp_perm j m).trans HP1.out), HD3, T4⟩
        case measure => have := HMP.out; simp [intOf]; omega
end Go.Proofs.Ytkeiakmfnammbaa
