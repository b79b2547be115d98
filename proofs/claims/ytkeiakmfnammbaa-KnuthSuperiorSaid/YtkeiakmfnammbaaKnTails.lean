/- The reference's Tails: the values of the tails. -/
import Derived.Test.YtkeiakmfnammbaaKnMeas
import Derived.Test.YtkeiakmfnammbaaKnEql
namespace Go.Proofs.Ytkeiakmfnammbaa
open Go.RowKit

theorem infoVl3 : (Try.prog.info? 23).map (fun i => (i.zero, i.size, i.bytes)) = some (some (.agg #[.int .i64 0, .int .i64 0]), 2, 16) := infoVl
/-- What a function that returns a list of values in new memory leaves. -/
def RetVls (l : List Vl) (w : World) (e : Ending) (w' : World) : Prop := ∃ A c, e = .returned (.slice A l.length c) ∧ Reads w' w'.heap.size 2 A l.length (vls l) ∧ Below w.heap.size w w'
theorem vls_push {w wr w1 : World} {base : Nat} {v : Value} {acc : List Vl} {t : Vl} {v' : Value} (hb : Below base w wr) (hbase : base ≤ w.heap.size)
    (h : w1.ownsRow base 23 2 v' (acc.length + 1) (vls acc ++ t.cells)) (hg : wr.grownBy w1 v.ownBlock) (hown : wr.ownsRow base 23 2 v acc.length (vls acc)) :
    w1.ownsRow base 23 2 v' (acc ++ [t]).length (vls (acc ++ [t])) ∧ Below base w w1 := by
  refine ⟨?_, hb.grown hg (by have := hb.size; omega) (fun k hk => (hown.lt k hk).1)⟩
  rw [vls_append, List.length_append]
  simpa [vls] using h
theorem tlv_snoc {V : Nat → Vl} {ts : List Int} {i : Nat} {t : Int} (h : ts[i]? = some t) : tlv V (ts.take (i + 1)) = tlv V (ts.take i) ++ [V t.toNat] := by
  rw [List.take_add_one, h]
  simp [tlv]
set_option maxHeartbeats 1000000 in
theorem rtails_any (w : World) (B nv cv : Nat) (Av : Option Addr) (V : List Vl) (hd cost l0 l1 : Int) (A : Option Addr) (c : Nat) (ts : List Int) (hV : Reads w B 2 Av nv (vls V)) (hR : Reads w B 1 A ts.length (ints ts)) (hB : B ≤ w.heap.size)
    (hts : ∀ t ∈ ts, 0 ≤ t ∧ t < nv) (hfew : ts.length ≤ 1000) :
    Calls Try.prog 24 #[.agg #[.int .i64 hd, .slice A ts.length c, .int .i64 cost, .int .i64 l0, .int .i64 l1], .slice Av nv cv] w (RetVls (tlv (gv V) ts) w) := by
  obtain ⟨i0, hi0, hz0, hz1, hz2⟩ := info_parts infoVl3
  have HV := Lib.hid (hV.more hB)
  have HR := Lib.hid (hR.more hB)
  have HT := Lib.hid hts
  obtain ⟨n, hn⟩ : ∃ n, ts.length = n := ⟨_, rfl⟩
  rw [hn] at HR hfew ⊢
  have HN := Lib.hid hn
  clear hV hR hts hn
  go_enter Try.func24, Try.ntmps24
  go_wp2_with fail
  have hb0 : Below w.heap.size w (w.alloc (.cells #[.int .i64 hd, .slice A n c, .int .i64 cost, .int .i64 l0, .int .i64 l1] 43)) := (Below.refl _ _).alloc (Nat.le_refl _) _
  go_loopw [5, 6] (fun v a wr => ∃ i : Nat, i ≤ n ∧ a = .int .i64 i ∧ Hid (wr.ownsRow (w.heap.size + 1) 23 2 v (tlv (gv V) (ts.take i)).length (vls (tlv (gv V) (ts.take i)))) ∧
      Hid (Blk wr w.heap.size 43 #[.int .i64 hd, .slice A n c, .int .i64 cost, .int .i64 l0, .int .i64 l1]) ∧ Hid (Below (w.heap.size + 1) (w.alloc (.cells #[.int .i64 hd, .slice A n c, .int .i64 cost, .int .i64 l0, .int .i64 l1] 43)) wr)) (fun _ a _ => n - (intOf a).toNat)
  case atStart => exact ⟨0, Nat.zero_le _, rfl, by simp [tlv, vls]; exact World.ownsRow_nil _ _ _ _, Blk.new' _ _ _ rfl, Below.refl _ _⟩
  case round =>
    obtain ⟨i, hi, rfl, HO, HK, HB⟩ := hrel
    have b1 := HK.out.cell 1
    simp at b1
    have hsz := HB.out.size
    simp only [World.size_alloc] at hsz
    have HBW : Hid (Below w.heap.size w wr) := hb0.trans (HB.out.mono (by omega))
    by_cases hlt : i < n
    case pos =>
      have hltD : decide (i < n) = true := by simp [hlt]
      obtain ⟨b, off, hA, hb, p0⟩ := (HR.out.below HBW.out).int_at hlt
      obtain ⟨t, hti⟩ : ∃ t, ts[i]? = some t := ⟨_, List.getElem?_eq_getElem (by have := HN.out; omega)⟩
      rw [hti] at p0
      simp only [Option.getD_some] at p0
      obtain ⟨t0, t1⟩ := HT.out t (List.mem_of_getElem? hti)
      obtain ⟨j, rfl⟩ := Int.eq_ofNat_of_zero_le t0
      have hj : j < nv := by omega
      obtain ⟨bv, ov, v, hAv, hbv, hvj, q0, q1⟩ := (HV.out.below HBW.out).vl_at hj
      have hgj : gv V j = v := by simp [gv, hvj]
      have hsn := tlv_snoc (V := gv V) hti
      simp only [Int.toNat_natCast, hgj] at hsn
      have hlen : (tlv (gv V) (ts.take i)).length ≤ i := by simp [tlv]; omega
      obtain ⟨acc, hacc⟩ : ∃ acc, tlv (gv V) (ts.take i) = acc := ⟨_, rfl⟩
      rw [hacc] at HO hsn hlen
      have HSN := Lib.hid hsn
      subst hA hAv
      clear hti hvj hgj hsn hacc t0 t1
      go_wp2_with (at_builtin; go_must (refine wpList_append_own _ rfl _ _ 27 rfl (w.heap.size + 1) 23 i0 (.agg #[.int .i64 0, .int .i64 0]) 2 16 Try.underlying27 hi0 hz0 hz1 hz2 rfl (by decide) _ acc.length (vls acc) rfl ?hown ⟨wr.heap.size, 0, none⟩ 1 1 v.cells rfl rfl ?c1 ?c2 ?c3 ?c4 ?c5 ?_))
      case hown => exact HO.out.alloc _
      case c1 =>
        intro j u hj
        rw [Addr.add_lit, (Blk.new' _ _ _ (by simp)).cell]
        simpa [Vl.cells] using hj
      case c2 =>
        intro u hu
        simp [Vl.cells] at hu
        rcases hu with rfl | rfl <;> rfl
      case c3 => unfold maxLen; omega
      case c4 => omega
      case c5 => simp; omega
      · intro v' w2 hown' hgrow _
        have hlt0 := HO.out.lt
        have B2 : Blk w2 w.heap.size 43 #[.int .i64 hd, .slice (some ⟨b, off, none⟩) n c, .int .i64 cost, .int .i64 l0, .int .i64 l1] := (HK.out.alloc _).grown hgrow (fun e => by have := hlt0 _ e.symm; omega)
        have R := vls_push (t := v) (HB.out.alloc (by omega) _) (by simp) hown' hgrow (HO.out.alloc _)
        have HR1 := Lib.hid R
        clear hown' hgrow HO R hlt0
        go_wp2_with fail
        go_roundw
        case rel => exact ⟨i + 1, by omega, by go_num, by rw [HSN.out]; exact HR1.out.1, B2, HR1.out.2⟩
        case measure => simp [intOf]; omega
    case neg =>
      have hltD : decide (i < n) = false := by simp [hlt]
      obtain rfl : i = n := by omega
      have hte : ts.take i = ts := by rw [← HN.out]; exact List.take_length
      rw [hte] at HO
      have hown := HO.out
      obtain ⟨A', c', rfl, _, _⟩ := own_form hown
      clear hte hown
      go_wp2_with fail
      go_ret
      exact ⟨A', c', rfl, Reads.of_own HO.out, HBW.out⟩
end Go.Proofs.Ytkeiakmfnammbaa
