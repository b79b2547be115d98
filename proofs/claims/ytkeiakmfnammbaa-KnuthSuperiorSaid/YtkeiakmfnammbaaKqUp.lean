/- An entry moved towards the root, or away from it. -/
import Derived.Test.YtkeiakmfnammbaaKqSwap
import Derived.Test.YtkeiakmfnammbaaKqBefore
namespace Go.Proofs.Ytkeiakmfnammbaa
open Go.RowKit

/-- A queue whose row is there: its list l, its map f. -/
def QR (w : World) (q g c b : Nat) (l : List Ent) (nx ck : Nat) (f : Int → Option Nat) : Prop :=
  Blk w q 75 #[.func (.func 30) #[] #[], .slice (some ⟨g, 0, none⟩) l.length c, .map (some b), .int .i64 nx, .int .i64 ck] ∧ OwnE w (some ⟨g, 0, none⟩) c l ∧ MapI w b nx f
theorem QR.below {w w' : World} {q g c b nx ck : Nat} {l : List Ent} {f : Int → Option Nat} (h : QR w q g c b l nx ck f) (hb : Below w.heap.size w w') : QR w' q g c b l nx ck f :=
  ⟨h.1.below hb h.1.lt, own_below h.2.1 hb, h.2.2.keep (hb.block b h.2.2.lt)⟩
/-- Handles below a bound. -/
def HB (l : List Ent) : Prop := ∀ e ∈ l, e.h ≤ 1000000000
theorem HB.perm {l l' : List Ent} (h : HB l) (hp : l'.Perm l) : HB l' := fun e he => h e (hp.mem_iff.1 he)

set_option maxRecDepth 100000 in
set_option maxHeartbeats 2000000 in
theorem up_any (w : World) (q g c b nx ck : Nat) (l : List Ent) (f : Int → Option Nat) (i : Nat) (hi : i < l.length) (h : QR w q g c b l nx ck f) (hA : Agree l f) (hn : nx ≤ 1000000000) (hll : l.length ≤ 1000000000) (hh : HB l) (hB : Both bf l i) :
    Calls Try.prog 40 #[.pointer (some ⟨q, 0, none⟩), .int .i64 i] w fun e w' => ∃ v l' f' i', e = .returned v ∧
      QR w' q g c b l' nx ck f' ∧ Agree l' f' ∧ l'.Perm l ∧ l'[i']? = l[i]? ∧ Down bf l' i' ∧ (Kids bf l i → Kids bf l' i') ∧ Touch (fun k => k = g ∨ k = b) w w' := by
  have HQ := Lib.hid h
  have HA := Lib.hid hA
  have HH := Lib.hid hh
  have HBo := Lib.hid hB
  clear h hA hh hB
  go_enter Try.func40, Try.ntmps40
  go_wp2_with fail
  go_loopw [1] (fun a wr => ∃ (j : Nat) (l' : List Ent) (f' : Int → Option Nat), a = .int .i64 j ∧ j < l'.length ∧ Hid (QR wr q g c b l' nx ck f') ∧ Hid (Agree l' f') ∧ Hid (l'.Perm l) ∧ Hid (l'[j]? = l[i]?) ∧ Hid (Both bf l' j) ∧ Hid (Kids bf l i → Kids bf l' j) ∧ Touch (fun k => k = g ∨ k = b) w wr) (fun a _ => (intOf a).toNat)
  case atStart => exact ⟨i, l, f, rfl, hi, HQ, HA, Lib.hid (List.Perm.refl _), Lib.hid rfl, HBo, Lib.hid (fun h => h), Touch.refl _ _⟩
  case round =>
    obtain ⟨j, l', f', rfl, hj, HQ1, HA1, HP1, HE1, HB1, HK1, T1⟩ := hrel
    clear HQ HA HBo
    have hlen := HP1.out.length_eq
    by_cases h0 : 0 < j
    case neg =>
      obtain rfl : j = 0 := by omega
      have hd : decide ((0 : Int) < ((0 : Nat) : Int)) = false := rfl
      go_wp2_with fail
      go_end0
      exact ⟨_, l', f', 0, rfl, HQ1.out, HA1.out, HP1.out, HE1.out, ⟨HB1.out, fun h => absurd h (by omega)⟩, HK1.out, T1⟩
    case pos =>
      have hd : decide (0 < j) = true := by simp [h0]
      obtain ⟨p, hp⟩ : ∃ p, (j - 1) / 2 = p := ⟨_, rfl⟩
      have hpl : p < l'.length := by omega
      have v1 : IntKind.i64.wrap ((j : Int) - 1) = (j : Int) - 1 := IntWalk.i64_in _ (by omega)
      have v2 : ((j : Int) - 1).tdiv 2 = (p : Int) := by rw [Int.tdiv_eq_ediv_of_nonneg (by omega)]; omega
      have v3 : IntKind.i64.wrap (p : Int) = (p : Int) := IntWalk.i64_in _ (by omega)
      have v4 : ((j : Int) - 1) / 2 = (p : Int) := by omega
      have HPp := Lib.hid hp
      obtain ⟨x, hx⟩ : ∃ x, l'[j]? = some x := ⟨_, List.getElem?_eq_getElem hj⟩
      obtain ⟨y, hy⟩ : ∃ y, l'[p]? = some y := ⟨_, List.getElem?_eq_getElem hpl⟩
      have HX := Lib.hid hx
      have HY := Lib.hid hy
      clear hp hx hy
      go_wp2_with fail
      refine (before_any wr q g c nx ck (.map (some b)) l' j p x y HQ1.out.1 HQ1.out.2.1 HX.out HY.out).mono ?_
      rintro e w1 ⟨rfl, hb1⟩
      have HQ2 := Lib.hid (HQ1.out.below hb1)
      have T2 := T1.below hb1
      clear HQ1 T1 hb1
      cases hbf : bf x y with
      | false =>
        go_wp2_with fail
        go_end0
        refine ⟨_, l', f', j, rfl, HQ2.out, HA1.out, HP1.out, HE1.out, ⟨HB1.out, fun _ => ?_⟩, HK1.out, T2⟩
        rw [HPp.out]
        intro a b ha hb
        rw [HY.out] at ha
        rw [HX.out] at hb
        injection ha with ha
        injection hb with hb
        subst ha hb
        exact hbf
      | true =>
        go_wp2_with fail
        refine (swap_any w1 q g c b nx ck l' f' j p x y HQ2.out.1 HQ2.out.2.1 HQ2.out.2.2 HA1.out HX.out HY.out hn (by omega) ⟨(HH.out.perm HP1.out) x (List.mem_of_getElem? HX.out), (HH.out.perm HP1.out) y (List.mem_of_getElem? HY.out)⟩).mono ?_
        rintro e w2 ⟨v, rfl, K3, O3, M3, T3⟩
        have HQ3 := Lib.hid (show QR w2 q g c b (swp l' j p) nx ck _ from ⟨K3, O3, M3⟩)
        have HA3 := Lib.hid (swap_agree HA1.out HX.out HY.out)
        have hup := HB1.out.up bf_ord h0 hj HX.out (by rw [HPp.out]; exact HY.out) hbf
        rw [HPp.out] at hup
        have HU := Lib.hid hup
        have hpe : (swp l' j p)[p]? = l[i]? := by rw [swp_at hj hpl, if_pos rfl]; exact HE1.out
        have HPE := Lib.hid hpe
        clear K3 O3 M3 hup hpe
        have T4 := T2.trans T3 (fun k h => .inl h)
        go_wp2_with fail
        go_roundw
        case rel => exact ⟨p, swp l' j p, _, by first | rfl | go_num, by rw [swp_length]; exact hpl, HQ3, HA3, Lib.hid ((swp_perm j p).trans HP1.out), HPE, Lib.hid HU.out.1, Lib.hid (fun _ => HU.out.2), T4⟩
        case measure => have := HPp.out; simp [intOf]; omega
end Go.Proofs.Ytkeiakmfnammbaa
