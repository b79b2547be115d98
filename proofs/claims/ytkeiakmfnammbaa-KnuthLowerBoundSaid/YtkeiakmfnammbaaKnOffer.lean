/- The solver's offer. -/
import Derived.Test.YtkeiakmfnammbaaKnSM
import Derived.Deep.DeepCutAuto
namespace Go.Proofs.Ytkeiakmfnammbaa
open Go.RowKit

theorem Step.of_below {base : Nat} {w w' : World} {F : Nat → Prop} (hb : Below w.heap.size w w') : Step base w F w' F := ⟨Touch.of_below hb, fun _ hk => .inl hk, fun h => hb.mono h⟩
theorem Step.trans {base : Nat} {w w1 w2 : World} {F G H : Nat → Prop} (h : Step base w F w1 G) (h' : Step base w1 G w2 H) : Step base w F w2 H :=
  ⟨h.touch.trans h'.touch h.new, fun k hk => by
    rcases h'.new k hk with h1 | h1
    · exact h.new k h1
    · exact .inr (Nat.le_trans h.touch.size h1), fun hb => (h.below hb).trans (h'.below (Nat.le_trans hb h.touch.size))⟩

set_option maxRecDepth 100000 in
set_option maxHeartbeats 2000000 in
theorem offer_any (w : World) (a : SA) (F : Nat → Prop) (V : List Vl) (S : List Bool) (O : List Int) (L : List Ent) (nx k : Nat) (e : Ed) (h : SM w a F V S O L nx) (he : a.es[k]? = some e) (hok : e.Ok a.N) (ho : ∀ v ∈ V, Ordy v) (hnx : nx < 100000000) :
    Calls Try.prog 31 #[.pointer (some ⟨a.sb, 0, none⟩), .int .i64 k] w fun x w' => ∃ v, x = .returned v ∧ ∃ G, SM w' a G V S O (offL V S e L nx) (offN V S e nx) ∧ Step a.base w F w' G := by
  have hk := (List.getElem?_eq_some_iff.1 he).1
  obtain ⟨b, off, e', hE, hb, he', p0, p1, p2, p3, p4, hR⟩ := h.hE.at_ hk
  obtain rfl : e' = e := by rw [he] at he'; injection he' with he'; exact he'.symm
  have HSM := Lib.hid h
  have HO := Lib.hid ho
  have HOK := Lib.hid hok
  have HR := Lib.hid hR
  have s1 := h.kS.1.cell 1
  have s2 := h.kS.1.cell 2
  simp [SA.cells] at s1 s2
  rw [hE] at s1
  obtain ⟨ne, hne⟩ : ∃ ne, a.es.length = ne := ⟨_, rfl⟩
  rw [hne] at s1 hk
  have hbw : b < w.heap.size := by have := h.bs; omega
  have hsb := h.kS.1.lt
  clear h ho hok hR he he'
  obtain ⟨⟨hd0, hd1⟩, ⟨c0, c1⟩, t0, few⟩ := HOK.out
  go_enter Try.func31, Try.ntmps31
  go_wp2_with fail
  obtain ⟨w0, hw0⟩ : ∃ w0, w.alloc (.cells #[.int .i64 e'.hd, .slice e'.A e'.ts.length e'.c, .int .i64 e'.cost, .int .i64 e'.l0, .int .i64 e'.l1] 43) = w0 := ⟨_, rfl⟩
  rw [hw0]
  have HSM0 : Hid (SM w0 a F V S O L nx) := by rw [← hw0]; exact HSM.out.alloc _
  have HKE : Hid (PB w0 F w.heap.size 43 #[.int .i64 e'.hd, .slice e'.A e'.ts.length e'.c, .int .i64 e'.cost, .int .i64 e'.l0, .int .i64 e'.l1]) := by rw [← hw0]; exact HSM.out.hQ.new _ _
  have hb0 : Below w.heap.size w w0 := by rw [← hw0]; exact (Below.refl _ _).alloc (Nat.le_refl _) _
  have hs0 : w0.heap.size = w.heap.size + 1 := by rw [← hw0]; simp
  have HB := Lib.hid HSM.out.bs
  have S2 : w0.cell? ⟨a.sb, 2, none⟩ = some (.slice (some ⟨a.va, 0, none⟩) a.N a.N) := by
    have := HSM0.out.kS.1.cell 2
    simpa [SA.cells] using this
  clear hw0 s1 s2
  refine (scombine_any w0 a.sb a.va a.N a.N a.base a.N V e'.A e'.c e'.hd e'.cost e'.l0 e'.l1 e'.ts S2 HSM0.out.kV.1 HSM0.out.lV.symm (by rw [HSM0.out.lV]; exact Nat.le_refl _) (HR.out.below (hb0.mono HB.out)) (by have := HB.out; omega) t0 c0 few HO.out).mono ?_
  rintro x w1 ⟨rfl, hb1⟩
  obtain ⟨v, hv⟩ : ∃ v, comb e'.cost (tlv (gv V) e'.ts) = v := ⟨_, rfl⟩
  have hev : ev (gv V) e' = v := hv
  rw [hv]
  have HSM1 := Lib.hid (HSM0.out.below hb1)
  have HKE1 := Lib.hid (HKE.out.below hb1)
  have hs1 := hb1.size
  have hb01 := hb0.trans (hb1.mono (by omega))
  clear HSM0 HKE
  clear S2
  go_upto_region 2 with fail
  obtain ⟨w2, hw2⟩ : ∃ w2, w1.alloc (.cells #[.int .i64 v.c, .int .i64 v.s] 23) = w2 := ⟨_, rfl⟩
  rw [hw2]
  have HSM2 : Hid (SM w2 a F V S O L nx) := by rw [← hw2]; exact HSM1.out.alloc _
  have HKE2 : Hid (PB w2 F w.heap.size 43 #[.int .i64 e'.hd, .slice e'.A e'.ts.length e'.c, .int .i64 e'.cost, .int .i64 e'.l0, .int .i64 e'.l1]) := by rw [← hw2]; exact HKE1.out.below ((Below.refl _ _).alloc (Nat.le_refl _) _)
  have HKV2 : Hid (PB w2 F w1.heap.size 23 #[.int .i64 v.c, .int .i64 v.s]) := by rw [← hw2]; exact HSM1.out.hQ.new _ _
  have hb2 : Below w.heap.size w w2 := by rw [← hw2]; exact hb01.alloc (by omega) _
  clear hw2 HSM1 HKE1 hb01 hb1 hb0
  have S3 : w2.cell? ⟨a.sb, 3, none⟩ = some (.slice (some ⟨a.sa, 0, none⟩) a.N a.N) := by
    have := HSM2.out.kS.1.cell 3
    simpa [SA.cells] using this
  obtain ⟨j, hj⟩ := Int.eq_ofNat_of_zero_le hd0
  have hjN : j < a.N := by omega
  obtain ⟨sj, hsj⟩ : ∃ sj, S[j]? = some sj := ⟨_, List.getElem?_eq_getElem (by rw [HSM2.out.lS]; exact hjN)⟩
  have S4 := HSM2.out.bool_at hsj
  have E0 := HKE2.out.1.cell 0
  have V0 := HKV2.out.1.cell 0
  have V1 := HKV2.out.1.cell 1
  simp at E0 V0 V1
  rw [hj] at E0
  have hoc : offc V S e' = (decide (v.c < 1099511627776) && !sj) := by simp only [offc, hev, hj, Int.toNat_natCast, hsj, Option.getD_some]
  by_cases hvc : v.c < 1099511627776
  case neg =>
    have hvD : decide (v.c < 1099511627776) = false := by simp [hvc]
    have hoF : offc V S e' = false := by rw [hoc, hvD]; rfl
    clear hvc
    go_quiet (fail)
    go_wp2_with fail
    go_end0
    exact ⟨_, rfl, F, by unfold offL offN; rw [hoF]; exact HSM2.out.drewN _, Step.of_below (below_drewN hb2 _)⟩
  case pos =>
  have hvD : decide (v.c < 1099511627776) = true := by simp [hvc]
  clear hvc
  cases sj
  case true =>
    have hoF : offc V S e' = false := by rw [hoc, hvD]; rfl
    go_quiet (fail)
    go_wp2_with fail
    go_end0
    exact ⟨_, rfl, F, by unfold offL offN; rw [hoF]; exact HSM2.out.drewN _, Step.of_below (below_drewN hb2 _)⟩
  case false =>
    have hoT : offc V S e' = true := by rw [hoc, hvD]; rfl
    go_quiet (fail)
    go_wp2_with fail
    obtain ⟨w3, hw3⟩ : ∃ w3, w2.drewN nq = w3 := ⟨_, rfl⟩
    rw [hw3]
    have HSM3 : Hid (SM w3 a F V S O L nx) := by rw [← hw3]; exact HSM2.out.drewN _
    have HKE3 : Hid (PB w3 F w.heap.size 43 #[.int .i64 e'.hd, .slice e'.A e'.ts.length e'.c, .int .i64 e'.cost, .int .i64 e'.l0, .int .i64 e'.l1]) := by rw [← hw3]; exact HKE2.out.below (below_drewN (Below.refl _ _) _)
    have HKV3 : Hid (PB w3 F w1.heap.size 23 #[.int .i64 v.c, .int .i64 v.s]) := by rw [← hw3]; exact HKV2.out.below (below_drewN (Below.refl _ _) _)
    have hb3 : Below w.heap.size w w3 := by rw [← hw3]; exact below_drewN hb2 _
    clear hw3 HSM2 HKE2 HKV2 hb2 S3 S4 E0 V0 V1
    clear hs1 hbw hsb hs0
    rw [hj] at HKE3
    have HSD : Hid (SM w3.drew a F V S O L nx) := HSM3.out.drewN 1
    have HS0 := Lib.hid (show w3.drew.cell? ⟨a.sb, 6, none⟩ = some (.pointer (some ⟨a.q, 0, none⟩)) ∧ w3.drew.cell? ⟨w.heap.size, 0, none⟩ = some (.int .i64 (j : Nat)) ∧ w3.drew.cell? ⟨w1.heap.size, 0, none⟩ = some (.int .i64 v.c) ∧ w3.drew.cell? ⟨w1.heap.size, 1, none⟩ = some (.int .i64 v.s) from ⟨HSD.out.kS.1.cell 6, HKE3.out.1.cell 0, HKV3.out.1.cell 0, HKV3.out.1.cell 1⟩)
    go_region_held3 (fun w' => w'.cell? ⟨a.sb, 6, none⟩ = some (.pointer (some ⟨a.q, 0, none⟩)) ∧ w'.cell? ⟨w.heap.size, 0, none⟩ = some (.int .i64 (j : Nat)) ∧ w'.cell? ⟨w1.heap.size, 0, none⟩ = some (.int .i64 v.c) ∧ w'.cell? ⟨w1.heap.size, 1, none⟩ = some (.int .i64 v.s))
      (first | with_reducible exact HS0.out | with_reducible exact HS1.out)
      (first | (go_at_call 37; refine (pushq_any (j : Int) v.c v.s HSD.out.hQ hnx hnx).mono ?_; rintro e w4 ⟨rfl, G, h4, s4⟩; have HSM4 := Lib.hid (HSD.out.step s4 h4); have HS1 := Lib.hid (show w4.cell? ⟨a.sb, 6, none⟩ = some (.pointer (some ⟨a.q, 0, none⟩)) ∧ w4.cell? ⟨w.heap.size, 0, none⟩ = some (.int .i64 (j : Nat)) ∧ w4.cell? ⟨w1.heap.size, 0, none⟩ = some (.int .i64 v.c) ∧ w4.cell? ⟨w1.heap.size, 1, none⟩ = some (.int .i64 v.s) from ⟨HSM4.out.kS.1.cell 6, (PB.step (base := a.base) (w := w3.drew) HKE3.out s4).1.cell 0, (PB.step (base := a.base) (w := w3.drew) HKV3.out s4).1.cell 0, (PB.step (base := a.base) (w := w3.drew) HKV3.out s4).1.cell 1⟩)))
    all_goals
      go_wp2_with fail
      go_end0
      refine ⟨_, rfl, G, ?_, (Step.of_below hb3).trans ((Step.of_below (w := w3) (w' := w3.drew) (below_drewN (Below.refl _ _) 1)).trans s4)⟩
      have e1 : offL V S e' L nx = L ++ [⟨(j : Int), v.c, v.s, nx, nx⟩] := by unfold offL; rw [if_pos hoT, hj, hev]
      have e2 : offN V S e' nx = nx + 1 := by unfold offN; rw [if_pos hoT]
      rw [e1, e2]
      exact HSM4.out
end Go.Proofs.Ytkeiakmfnammbaa
