/- Settle; a span made. -/
import Derived.Test.YthakcefgbggkcaaDoorCMf
import Derived.Test.YthakcefgbggkcaaDoorCMg
import Derived.Deep.LoopGhost
namespace Go.Proofs.YthakcefgbggkcaaDoor
open Go.RowKit

theorem usesB_cases (r : Rl) (j : Nat) : (usesB r j = true ∧ (((r.k == 3) = true ∧ (r.a == (j : Int)) = true) ∨ ((r.k == 3) = false ∧ (r.k == 4) = true ∧ (r.a == (j : Int)) = true) ∨ ((r.k == 3) = false ∧ (r.k == 4) = true ∧ (r.a == (j : Int)) = false ∧ (r.b == (j : Int)) = true))) ∨
    (usesB r j = false ∧ (((r.k == 3) = true ∧ (r.k == 4) = false ∧ (r.a == (j : Int)) = false) ∨ ((r.k == 3) = false ∧ (r.k == 4) = false) ∨ ((r.k == 3) = false ∧ (r.k == 4) = true ∧ (r.a == (j : Int)) = false ∧ (r.b == (j : Int)) = false))) := by
  unfold usesB
  by_cases h1 : r.k = 3
  · by_cases h2 : r.a = j
    · left; simp [h1, h2]
    · right; simp [h1, h2]
  · by_cases h2 : r.k = 4
    · by_cases h3 : r.a = j
      · left; simp [h2, h3]
      · by_cases h4 : r.b = j
        · left; simp [h2, h3, h4]
        · right; simp [h2, h3, h4]
    · right; simp [h1, h2]
set_option maxRecDepth 100000 in
set_option maxHeartbeats 2000000 in
theorem uses_any (w : World) (r : Rl) (j : Nat) : Calls Tryd.prog 61 #[r.val, .int .i64 j] w fun e w' => e = .returned (.bool (usesB r j)) ∧ Below w.heap.size w w' := by
  have key := usesB_cases r j
  obtain ⟨u, hu⟩ : ∃ u, usesB r j = u := ⟨_, rfl⟩
  rw [hu] at key ⊢
  simp only [Rl.val]
  clear hu
  rcases key with ⟨rfl, ⟨d1, d2⟩ | ⟨d1, d2, d3⟩ | ⟨d1, d2, d3, d4⟩⟩ | ⟨rfl, ⟨d1, d2, d3⟩ | ⟨d1, d2⟩ | ⟨d1, d2, d3, d4⟩⟩
  all_goals
    go_enter Tryd.func61, Tryd.ntmps61
    go_wp2_with fail
    go_ret
    exact ⟨rfl, (Below.refl _ _).alloc (Nat.le_refl _) _⟩

section
variable {N : Nat} {V : List Vl} {B : List Bool} {H : List Int} {Q Q' : List Ent} {j : Nat} {m : Ent}
theorem gv_beyond {i : Nat} (h : V.length ≤ i) : gv V i = vtop := by unfold gv; rw [List.getElem?_eq_none h]; rfl
theorem QI.empty (h : QI N V B H []) (hV : V.length = N) (hH : H.length = N) : ∀ i, B[i]? ≠ some true → gv V i = vtop := fun i hi => by
  rcases Nat.lt_or_ge i N with hl | hl
  · obtain ⟨x, hx⟩ : ∃ x, H[i]? = some x := ⟨_, List.getElem?_eq_getElem (by omega)⟩
    by_cases hn : x = -1
    · exact (h.neg i hl (by rw [hx, hn])).1
    · rcases (h.pos i x hl hx hn).2 with h1 | ⟨e, he, _⟩
      · exact absurd h1 hi
      · simp at he
  · exact gv_beyond (by omega)
theorem QI.min (h : QI N V B H Q) (hV : V.length = N) (hH : H.length = N) (hm : IsMin m Q) (hd : (Q.map Ent.t).Nodup) {j : Nat} (hj : V[j]? = some ⟨m.cost, m.size⟩) : ∀ i, B[i]? ≠ some true → vle (gv V j) (gv V i) := fun i hi => by
  rw [gv_at hj]
  have hfin : (⟨m.cost, m.size⟩ : Vl) = gv V j := (gv_at hj).symm
  rcases Nat.lt_or_ge i N with hl | hl
  · obtain ⟨x, hx⟩ : ∃ x, H[i]? = some x := ⟨_, List.getElem?_eq_getElem (by omega)⟩
    by_cases hn : x = -1
    · rw [(h.neg i hl (by rw [hx, hn])).1, hfin]
      exact (h.nV j).le_top
    · rcases (h.pos i x hl hx hn).2 with h1 | ⟨e, he, hei⟩
      · exact absurd h1 hi
      · obtain ⟨i', _, h2, _, _, h5, _⟩ := h.ent e he
        have : i' = i := by omega
        subst this
        rw [gv_at h5]
        by_cases ht : e.t = m.t
        · have : e = m := uniq_map hd he hm.1 ht
          rw [this]
          exact vle.refl _
        · have hb := hm.2 e he ht
          rw [bf_iff] at hb
          unfold vle
          simp only
          omega
  · rw [gv_beyond (by omega), hfin]
    exact (h.nV j).le_top
theorem QI.pop (h : QI N V B H Q) (hB : B.length = N) (hp : Q.Perm (m :: Q')) (hnd : (Q.map Ent.h).Nodup) (hj : j < N) (hmj : m.node = (j : Nat)) (hH : H[j]? = some (m.h : Int)) (hV : V[j]? = some ⟨m.cost, m.size⟩) (hf : m.cost < 1099511627776) : QI N V (B.set j true) H Q' := by
  have hjB : j < B.length := by omega
  have hnd2 := (hp.map Ent.h).nodup_iff.1 hnd
  rw [List.map_cons, List.nodup_cons] at hnd2
  have hset : ∀ i, (B.set j true)[i]? = if j = i then some true else B[i]? := fun i => by
    rw [List.getElem?_set]
    by_cases e : j = i
    · subst e; simp [hjB]
    · simp [e]
  refine ⟨h.nV, fun e he => ?_, fun i hi h1 => ?_, fun i x hi h1 h2 => ?_, fun i hi => ?_⟩
  · obtain ⟨i, h1, h2, h3, h4, h5, h6⟩ := h.ent e (hp.mem_iff.2 (by simp [he]))
    refine ⟨i, h1, h2, ?_, h4, h5, h6⟩
    rw [hset, if_neg]
    · exact h3
    · intro e1
      subst e1
      rw [hH] at h4
      injection h4 with h4
      exact hnd2.1 (List.mem_map.2 ⟨e, he, by omega⟩)
  · obtain ⟨a1, a2⟩ := h.neg i hi h1
    refine ⟨a1, ?_⟩
    rw [hset, if_neg]
    · exact a2
    · intro e1
      subst e1
      rw [hH] at h1
      injection h1 with h1
      omega
  · obtain ⟨a1, a2⟩ := h.pos i x hi h1 h2
    refine ⟨a1, ?_⟩
    rw [hset]
    by_cases e1 : j = i
    · left; rw [if_pos e1]
    · rw [if_neg e1]
      rcases a2 with a2 | ⟨e, he, hei⟩
      · exact .inl a2
      · right
        rcases List.mem_cons.1 (hp.mem_iff.1 he) with rfl | he'
        · omega
        · exact ⟨e, he', hei⟩
  · rw [hset] at hi
    by_cases e1 : j = i
    · subst e1
      rw [gv_at hV]
      exact hf
    · rw [if_neg e1] at hi
      exact h.fin i hi
end
/-- How many nonterminals are not final. -/
def nfin (B : List Bool) : Nat := B.countP fun b => !b
theorem nfin_set : ∀ {B : List Bool} {j : Nat}, B[j]? = some false → nfin (B.set j true) + 1 = nfin B
  | [], _, h => by simp at h
  | b :: B, 0, h => by simp at h; subst h; simp [nfin]
  | b :: B, j + 1, h => by
    simp at h
    have ih := nfin_set h
    simp only [nfin, List.set_cons_succ, List.countP_cons] at *
    omega
theorem bnd_len {L : List Ar} {s t : Nat} {r : Rl} {j : Nat} (hu : usesB r j = true) : (bnd L s t r).length ≤ 2 := by
  unfold usesB at hu
  simp only [Bool.or_eq_true, Bool.and_eq_true, decide_eq_true_eq] at hu
  unfold bnd
  split
  · simp
  · rename_i hk
    rcases hu with ⟨h1, _⟩ | ⟨h1, _⟩
    · unfold insts
      rw [h1]
      simp
    · exact absurd h1 hk
/-- What 'settle' leaves. -/
def SetPost (a : SP) (F : Nat → Prop) (w : World) (e : Ending) (w' : World) : Prop := ∃ v, e = .returned v ∧ ∃ G V B m, ST w' a G V B m ∧ SSol a.R a.L a.s a.t a.C (gv V) ∧ Stp a w F w' G

set_option maxRecDepth 100000 in
set_option maxHeartbeats 8000000 in
theorem settle_any (w : World) (a : SP) (F : Nat → Prop) (V : List Vl) (B : List Bool) (M : Vl) (m0 : Nat) (hST : ST w a F V B m0) (hS2 : S2 a.R a.L a.N a.s a.t a.C V B M) (ok : a.Ok) (hm0 : m0 ≤ 90000000) :
    Calls Tryd.prog 50 #[.pointer (some ⟨a.sp, 0, none⟩)] w (SetPost a F w) := by
  obtain ⟨w1, hw1⟩ : ∃ w1, w.alloc (.cells #[.pointer (some ⟨a.sp, 0, none⟩)] 83) = w1 := ⟨_, rfl⟩
  have hb1 : Below w.heap.size w w1 := by rw [← hw1]; exact (Below.refl _ _).alloc (Nat.le_refl _) _
  obtain ⟨bs, hbs⟩ : ∃ bs, w.heap.size = bs := ⟨_, rfl⟩
  have K1 : Blk w1 bs 83 #[.pointer (some ⟨a.sp, 0, none⟩)] := by rw [← hw1]; exact Blk.new' w _ _ hbs
  obtain ⟨hl1, hl2, _⟩ := hST.lt
  have hMb : Mine a F bs := ⟨fun hf => by have := (hl1 _ hf).2; omega, by omega, by omega, by omega⟩
  have HST := Lib.hid (hST.below hb1 ok.g)
  have HS2 := Lib.hid hS2
  have HOK := Lib.hid ok
  have HKb := Lib.hid K1
  have HMb := Lib.hid hMb
  have HB1 := Lib.hid hb1
  have HW1 := Lib.hid hw1
  have HLB := Lib.hid (show bs < w1.heap.size from K1.lt)
  have hnf : nfin B ≤ a.N := by unfold nfin; rw [← hS2.lB]; exact List.countP_le_length
  have hN1 := ok.N1
  have hnR := ok.nR
  have HM0 : Hid (m0 + 1200 * nfin B ≤ 92000000) := by show _ ≤ _; omega
  clear hST hS2 ok hb1 hw1 K1 hMb hl1 hl2 hnf hm0
  go_enter Tryd.func50, Tryd.ntmps50
  go_upto_region 1 with fail
  rw [HW1.out]
  have HST0 : Hid (Stp a w1 F w1 F) := Stp.refl _ _ _
  go_wp2_with fail
  go_loopg [2] (nfin B) (fun kx _ wr => ∃ (G : Nat → Prop) (V : List Vl) (B : List Bool) (M : Vl) (m : Nat), nfin B ≤ kx ∧ Hid (m + 1200 * nfin B ≤ 92000000) ∧ Hid (ST wr a G V B m) ∧ Hid (S2 a.R a.L a.N a.s a.t a.C V B M) ∧ Hid (Blk wr bs 83 #[.pointer (some ⟨a.sp, 0, none⟩)]) ∧ Hid (Mine a G bs) ∧ Hid (Stp a w1 F wr G))
  case atStart => exact ⟨F, V, B, M, m0, Nat.le_refl _, HM0, HST, HS2, HKb, HMb, HST0⟩
  case round =>
    obtain ⟨G, V, B, M, m, hkx, HM, HSTr, HS2r, HKr, HMr, HSPr⟩ := hrel
    clear HM0 HST HS2 HKb HMb HST0
    obtain ⟨H, Q, nx, ck, hsm, hqi, hnx, hck⟩ := HSTr.out
    have s0 := HKr.out.cell 0
    have c15 := hsm.rd.kS.cell 15
    simp [SP.cells] at s0 c15
    have HSM := Lib.hid hsm
    have HQI := Lib.hid hqi
    have HNX := Lib.hid (And.intro hnx hck)
    clear hsm hqi hnx hck
    by_cases hQ : Q = []
    case pos => as_aux_lemma =>
      subst hQ
      have HNO := Lib.hid (HQI.out.empty HSM.out.lV HSM.out.lH)
      go_wp2_with fail
      refine (popq_none HSM.out.hQ).mono ?_
      rintro e w2 ⟨rfl, hb2⟩
      have HF : Hid (SetPost a F w (.returned (.tuple #[])) w2) := ⟨_, rfl, G, V, B, m, HSTr.out.below hb2 HOK.out.g, HS2r.out.sol (fx_of HOK.out) HNO.out, ((Stp.of_below HB1.out).trans HSPr.out).next hb2⟩
      clear hb2
      go_wp2_with fail
      go_end0
      exact HF.out
    case neg =>
      have HPOP := Lib.hid (popq_some (a.Z V) HSM.out.hQ HSM.out.env HSM.out.apart (HQI.out.coh HSM.out) hQ)
      clear hQ
      go_wp2_with fail
      refine HPOP.out.mono ?_
      rintro e w2 ⟨x, Q', hmin, hperm, rfl, G2, hq2, hs2⟩
      obtain ⟨j, hjN, hxj, hBj, hHj, hVj, hfin⟩ := HQI.out.ent x hmin.1
      have hnd := HSM.out.hQ.1.hd
      have htd := HSM.out.hQ.ok.td
      have hqi2 := HQI.out.pop HSM.out.lB hperm hnd hjN hxj hHj hVj hfin
      have hS3 := HS2r.out.pop hjN hBj (HQI.out.min HSM.out.lV HSM.out.lH hmin htd hVj)
      have hsm2 := HSM.out.step hs2 hq2 HOK.out.g
      have hKlt : bs < wr.heap.size := HKr.out.lt
      have hK2 := HKr.out.stp (Stp.of_step (a := a) hs2) HMr.out.1 HMr.out.2
      have hM2 := HMr.out.stp (Stp.of_step (a := a) hs2) hKlt
      have hSP2 := HSPr.out.trans (Stp.of_step (a := a) hs2)
      have hnf := nfin_set hBj
      have c13 := hsm2.rd.kS.cell 13
      simp [SP.cells] at c13
      have b0 := hsm2.bool_at hBj
      have z0 := hsm2.kB.1.frozen j
      have s02 := hK2.cell 0
      simp at s02
      have hsm3 := hsm2.setB HOK.out.g j true
      have HST3 : Hid (ST (w2.setCell ⟨a.fb, j, none⟩ (.bool true)) a G2 V (B.set j true) m) := ⟨H, Q', nx, ck, hsm3, hqi2, HNX.out.1, HNX.out.2⟩
      have HS3 := Lib.hid hS3
      have nkf : bs ≠ a.fb := hM2.2.2.1
      have HK3 : Hid (Blk (w2.setCell ⟨a.fb, j, none⟩ (.bool true)) bs 83 #[.pointer (some ⟨a.sp, 0, none⟩)]) := hK2.far nkf _
      have HM3 := Lib.hid hM2
      have HSP3 : Hid (Stp a w1 F (w2.setCell ⟨a.fb, j, none⟩ (.bool true)) G2) := hSP2.setCell (.inr (.inl rfl)) _
      have HNF := Lib.hid hnf
      rw [hxj]
      clear hmin hperm hq2 hs2 hxj hBj hHj hVj hfin hnd htd hqi2 hS3 hsm2 hK2 hM2 hSP2 hsm3 hKlt hnf HSTr HS2r HKr HMr HSPr HSM HQI HNX s0 c15 nkf HPOP
      go_upto_region 4 with fail
      clear c13 b0 z0 s02
      generalize w2.setCell ⟨a.fb, j, none⟩ (.bool true) = w3 at HST3 HK3 HSP3 ⊢
      have s0 := HK3.out.cell 0
      have c3 := HST3.out.rd.kS.cell 3
      simp [SP.cells] at s0 c3
      obtain ⟨n, hn⟩ : ∃ n, a.R.length = n := ⟨_, rfl⟩
      rw [hn] at c3
      have HN := Lib.hid hn
      have hnR : n ≤ 600 := by rw [← hn]; exact HOK.out.nR
      clear hn
      obtain ⟨B', hB'⟩ : ∃ B', B.set j true = B' := ⟨_, rfl⟩
      rw [hB'] at HST3 HS3 HNF
      clear hB'
      go_wp2_with fail
      go_loopw [28] (fun x wr => ∃ k : Nat, k ≤ n ∧ x = .int .i64 k ∧ ∃ (G : Nat → Prop) (V : List Vl) (m' : Nat), Hid (m' ≤ m + 2 * k) ∧ Hid (ST wr a G V B' m') ∧ Hid (S3 a.R a.L a.N a.s a.t a.C V B' j k []) ∧ Hid (Blk wr bs 83 #[.pointer (some ⟨a.sp, 0, none⟩)]) ∧ Hid (Mine a G bs) ∧ Hid (Stp a w1 F wr G)) (fun x _ => n - (intOf x).toNat)
      case atStart => exact ⟨0, Nat.zero_le _, rfl, G2, V, m, Lib.hid (Nat.le_refl _), HST3, HS3, HK3, HM3, HSP3⟩
      case round =>
        obtain ⟨k, hk, rfl, G, V, m', HMk, HSTk, HS3k, HKk, HMbk, HSPk⟩ := hrel
        clear HST3 HS3 HK3 HM3 HSP3 s0 c3
        by_cases hlt : k < n
        case neg => as_aux_lemma =>
          have hltD : decide (k < n) = false := by simp [hlt]
          obtain rfl : k = n := by omega
          have hnil := HS3k.out.done (by rw [HN.out]; exact Nat.le_refl _)
          have HS2' := Lib.hid hnil
          clear hnil
          go_wp2_with fail
          go_roundg (nfin B')
          case measure => have := HNF.out; omega
          case rel => exact ⟨G, V, B', gv V j, m', Nat.le_refl _, Lib.hid (show _ ≤ _ by have := HM.out; have := HMk.out; have := HNF.out; omega), HSTk, HS2', HKk, HMbk, HSPk⟩
        case pos =>
          have hltD : decide (k < n) = true := by simp [hlt]
          obtain ⟨b, off, r, hA, hbB, hr, p0, p1, p2, p3, p4, p5⟩ := HSTk.out.rd.rR.rl_at (k := k) (by rw [HN.out]; exact hlt)
          have hrok := HOK.out.R r (List.mem_of_getElem? hr)
          have HRR := Lib.hid (And.intro hr hrok)
          obtain ⟨w5, hw5⟩ : ∃ w5, wr.alloc (.cells #[.int .i64 r.k, .int .i64 r.hd, .int .i64 r.a, .int .i64 r.b, .int .i64 r.p, .int .i64 r.o] 65) = w5 := ⟨_, rfl⟩
          have hb5 : Below wr.heap.size wr w5 := by rw [← hw5]; exact (Below.refl _ _).alloc (Nat.le_refl _) _
          obtain ⟨br, hbr⟩ : ∃ br, wr.heap.size = br := ⟨_, rfl⟩
          have hK5 : Blk w5 br 65 r.arr := by rw [← hw5]; exact Blk.new' wr _ _ hbr
          have HW5 := Lib.hid hw5
          have HB5 := Lib.hid hb5
          have HR5 := Lib.hid hK5
          have HUS := Lib.hid (uses_any w5 r j)
          have HST5 := Lib.hid (HSTk.out.below hb5 HOK.out.g)
          have HK5 := Lib.hid (HKk.out.below hb5 HKk.out.lt)
          have HSP5 := Lib.hid (HSPk.out.next hb5)
          have hMr : Mine a G br := by
            obtain ⟨q1, q2, _⟩ := HSTk.out.lt
            exact ⟨fun hf => by have := (q1 _ hf).2; omega, by omega, by omega, by omega⟩
          have HMR := Lib.hid hMr
          have q0 := hK5.cell 0
          have q1 := hK5.cell 1
          have q2 := hK5.cell 2
          have q3 := hK5.cell 3
          have q4 := hK5.cell 4
          have q5 := hK5.cell 5
          simp [Rl.arr] at q0 q1 q2 q3 q4 q5
          simp only [Rl.val] at HUS
          have s0 := HK5.out.cell 0
          simp at s0
          rw [hA]
          clear hr hrok hw5 hb5 hK5 hMr HSTk HKk HSPk hbB hA
          go_upto_region 7 with fail
          rw [HW5.out]
          clear p0 p1 p2 p3 p4 p5 HW5
          clear hbr
          go_wp2_with fail
          refine HUS.out.mono ?_
          rintro e w6 ⟨rfl, hb6⟩
          have HST6 := Lib.hid (HST5.out.below hb6 HOK.out.g)
          have HK6 := Lib.hid (HK5.out.below hb6 HK5.out.lt)
          have HR6 := Lib.hid (HR5.out.below hb6 HR5.out.lt)
          have HSP6 := Lib.hid (HSP5.out.next hb6)
          clear hb6 HST5 HK5 HR5 HSP5 HB5 q0 q1 q2 q3 q4 q5 s0 HUS
          obtain ⟨u, hu⟩ : ∃ u, usesB r j = u := ⟨_, rfl⟩
          rw [hu]
          have HU := Lib.hid hu
          clear hu
          cases u with
          | false =>
            have HS3n := Lib.hid (HS3k.out.next (fx_of HOK.out) HRR.out.1 (fun h => by rw [HU.out] at h; cases h))
            go_wp2_with fail
            go_roundw
            case rel => exact ⟨k + 1, by omega, by go_num, G, V, m', Lib.hid (show _ ≤ _ by have := HMk.out; omega), HST6, HS3n, HK6, HMbk, HSP6⟩
            case measure => simp [intOf]; omega
          | true =>
            have hbl := bnd_len (L := a.L) (s := a.s) (t := a.t) HU.out
            have hI3 : I3 a B' j k r br bs m' [] G w6 := ⟨V, m', HST6.out, HS3k.out, by simp, HR6.out, HMR.out, HK6.out, HMbk.out⟩
            have hbd := bnd_any w6 r G HOK.out HRR.out.2 (cb3 a HOK.out B' j k r br bs m' HRR.out.1 (by have := HM.out; have := HMk.out; omega)) hI3
            have HBD := Lib.hid hbd
            simp only [Rl.val] at HBD
            have HBL := Lib.hid hbl
            have q0 := HR6.out.cell 0
            have q1 := HR6.out.cell 1
            have q2 := HR6.out.cell 2
            have q3 := HR6.out.cell 3
            have q4 := HR6.out.cell 4
            have q5 := HR6.out.cell 5
            simp [Rl.arr] at q0 q1 q2 q3 q4 q5
            have s0 := HK6.out.cell 0
            simp at s0
            have hmf : ∀ (fn : Fn) (first cap : Array Value) (w : World), (Instr.makeFunc fn first cap).run Tryd.prog w = .ok (.func fn first cap) w := fun _ _ _ _ => rfl
            clear hbl hI3 hbd
            go_wp2_with fail
            refine HBD.out.mono ?_
            rintro e w7 ⟨v7, rfl, G7, hs7, hres⟩
            obtain ⟨V7, m7, h1, h2, h3, h4, h5, h6, h7⟩ := hres.resolve_right (fun h => h)
            have HS3n := Lib.hid (h2.next (fx_of HOK.out) HRR.out.1 (fun _ => rfl))
            have HST7 := Lib.hid h1
            have HK7 := Lib.hid h6
            have HM7 := Lib.hid h7
            have HSP7 := Lib.hid (HSP6.out.trans hs7)
            have HMM : Hid (m7 ≤ m + 2 * (k + 1)) := by have := HMk.out; have := HBL.out; show _ ≤ _; omega
            clear h1 h2 h3 h4 h5 h6 h7 hs7 hres
            go_wp2_with fail
            go_roundw
            case rel => exact ⟨k + 1, by omega, by go_num, G7, V7, m7, HMM, HST7, HS3n, HK7, HM7, HSP7⟩
            case measure => simp [intOf]; omega
end Go.Proofs.YthakcefgbggkcaaDoor

namespace Go.Proofs.YthakcefgbggkcaaDoor
open Go.RowKit

theorem infoB1 : (Tryd.prog.info? 4).map (fun i => (i.zero, i.size, i.bytes)) = some (some (.bool false), 1, 1) := by kernel_rfl
theorem infoI1 : (Tryd.prog.info? 3).map (fun i => (i.zero, i.size, i.bytes)) = some (some (.int .i64 0), 1, 8) := by kernel_rfl
theorem made_one (z : Value) (n : Nat) : madeCells #[z] n = (List.replicate n z).toArray := by
  apply Array.toList_inj.1
  rw [toList_madeCells_one]
theorem made_bools (n : Nat) : madeCells #[.bool false] n = (bools (List.replicate n false)).toArray := by rw [made_one]; simp [bools]
theorem made_ints (n : Nat) : madeCells #[.int .i64 0] n = (ints (List.replicate n 0)).toArray := by rw [made_one]; simp [ints]
theorem mk_bools (n : Nat) (hn : n ≤ 1000000) (w : World) : (Instr.makeSlice 84 (.int .i64 (n : Int)) (.int .i64 (n : Int))).run Tryd.prog w = .ok (.slice (some ⟨w.heap.size, 0, none⟩) n n) (w.alloc (.cells (bools (List.replicate n false)).toArray 4)) := by
  rw [← made_bools]
  exact run_make_row' (P := Tryd.prog) 84 4 (.bool false) 1 Tryd.underlying84 infoB1 rfl .i64 .i64 n (by omega) (by omega) w
theorem mk_ints (n : Nat) (hn : n ≤ 1000000) (w : World) : (Instr.makeSlice 26 (.int .i64 (n : Int)) (.int .i64 (n : Int))).run Tryd.prog w = .ok (.slice (some ⟨w.heap.size, 0, none⟩) n n) (w.alloc (.cells (ints (List.replicate n 0)).toArray 3)) := by
  rw [← made_ints]
  exact run_make_row' (P := Tryd.prog) 26 3 (.int .i64 0) 8 Tryd.underlying26 infoI1 rfl .i64 .i64 n (by omega) (by omega) w
theorem Blk.drew1 {w : World} {g : Nat} {t : TypeId} {cs : Array Value} (h : Blk w g t cs) : Blk w.drew g t cs := h
theorem below_drew1 {B : Nat} {w w' : World} (h : Below B w w') : Below B w w'.drew := below_drewN h 1
/-- The span as it is first laid: no queue yet. -/
def SP.cells0 (a : SP) : Array Value := #[.int .i64 a.T, .int .i64 a.N, .int .i64 a.st, .slice a.RA a.R.length a.rc, .int .i64 a.S, .slice a.LA a.L.length a.lc, .slice a.FA a.nf a.fc, .int .i64 a.N, .int .i64 a.S, .slice a.CA a.cs.length a.cc,
  .int .i64 a.s, .int .i64 a.t, .slice (some ⟨a.bb, 0, none⟩) a.N a.N, .slice (some ⟨a.fb, 0, none⟩) a.N a.N, .slice (some ⟨a.hb, 0, none⟩) a.N a.N, .pointer none]
/-- The parts as they are made, wherever they lie. -/
structure Parts (w0 w : World) (a : SP) : Prop where
  kS : Blk w a.sp 87 a.cells0
  kC : Blk w a.cb 83 #[.pointer (some ⟨a.sp, 0, none⟩)]
  kV : Blk w a.bb 45 (vls (List.replicate a.N ⟨0, 0⟩)).toArray
  kB : Blk w a.fb 4 (bools (List.replicate a.N false)).toArray
  kH : Blk w a.hb 3 (ints (List.replicate a.N 0)).toArray
  lo : w0.heap.size ≤ a.sp ∧ w0.heap.size ≤ a.cb ∧ w0.heap.size ≤ a.bb ∧ w0.heap.size ≤ a.fb ∧ w0.heap.size ≤ a.hb
  below : Below w0.heap.size w0 w
/-- The same span, its parts lying elsewhere. -/
def SP.put (a : SP) (base sp cb bb fb hb q : Nat) : SP := { a with base := base, sp := sp, cb := cb, bb := bb, fb := fb, hb := hb, q := q }
def PartsPut (w0 w : World) (a : SP) (base cb : Nat) : Prop := ∃ sp bb fb hb : Nat, Parts w0 w (a.put base sp cb bb fb hb 0)
theorem parts_leaf {w1 wx : World} {a : SP} {base sp cb bb fb hb : Nat}
    (kS : Blk wx sp 87 (a.put base sp cb bb fb hb 0).cells0) (kC : Blk wx cb 83 #[.pointer (some ⟨sp, 0, none⟩)])
    (kV : Blk wx bb 45 (vls (List.replicate a.N ⟨0, 0⟩)).toArray) (kB : Blk wx fb 4 (bools (List.replicate a.N false)).toArray) (kH : Blk wx hb 3 (ints (List.replicate a.N 0)).toArray)
    (lo : w1.heap.size ≤ sp ∧ w1.heap.size ≤ cb ∧ w1.heap.size ≤ bb ∧ w1.heap.size ≤ fb ∧ w1.heap.size ≤ hb) (below : Below w1.heap.size w1 wx) :
    ∃ cb' : Nat, Value.pointer (some ⟨cb, 0, none⟩) = .pointer (some ⟨cb', 0, none⟩) ∧ PartsPut w1 wx a base cb' := ⟨cb, rfl, sp, bb, fb, hb, ⟨kS, kC, kV, kB, kH, lo, below⟩⟩
def vini (N i : Nat) : List Vl := List.replicate i vtop ++ List.replicate (N - i) ⟨0, 0⟩
def eini (N i : Nat) : List Int := List.replicate i (-1) ++ List.replicate (N - i) 0
theorem vini_len {N i : Nat} (h : i ≤ N) : (vini N i).length = N := by simp [vini]; omega
theorem eini_len {N i : Nat} (h : i ≤ N) : (eini N i).length = N := by simp [eini]; omega
theorem ini_set {α : Type} {x y : α} {N i : Nat} (h : i < N) : (List.replicate i x ++ List.replicate (N - i) y).set i x = List.replicate (i + 1) x ++ List.replicate (N - (i + 1)) y := by
  rw [List.set_append_right _ _ (by simp)]
  rw [show N - i = (N - (i + 1)) + 1 by omega, List.replicate_succ (n := N - (i + 1)), List.length_replicate, Nat.sub_self, List.set_cons_zero, List.replicate_succ' (n := i)]
  simp
theorem parts_sm {w1 w2 w3 : World} {a : SP} {base cb sp bb fb hb q : Nat} {F : Nat → Prop} (hP : Parts w1 w2 (a.put base sp cb bb fb hb 0)) (ok : (a.put base sp cb bb fb hb q).Ok) (hb0 : base ≤ w1.heap.size) (rR : Reads w1 base 6 a.RA a.R.length (rls a.R)) (rL : Reads w1 base 5 a.LA a.L.length (ars a.L)) (rC : Reads w1 base 4 a.CA a.cs.length (cls a.cs)) (g : NoneAt w1)
    (hq : QB w3 w2.heap.size cb q F [] 0 0) (hbb : Below w2.heap.size w2 w3) :
    SM (w3.setCell ⟨sp, 15, none⟩ (.pointer (some ⟨q, 0, none⟩))) (a.put base sp cb bb fb hb q) F (List.replicate a.N ⟨0, 0⟩) (List.replicate a.N false) (List.replicate a.N 0) [] 0 0 := by
  have hs12 := hP.below.size
  have hs23 := hbb.size
  have hn : ∀ {g : Nat}, g < w2.heap.size → ¬ F g := fun h hf => by have := (hq.2 _ hf).1; omega
  have e1 : cb ≠ sp := Blk.ne_ hP.kC hP.kS (by decide)
  have e2 : bb ≠ sp := Blk.ne_ hP.kV hP.kS (by decide)
  have e3 : fb ≠ sp := Blk.ne_ hP.kB hP.kS (by decide)
  have e4 : hb ≠ sp := Blk.ne_ hP.kH hP.kS (by decide)
  have hlo := hP.lo
  simp only [SP.put] at hlo
  have hB13 : Below base w1 w3 := (hP.below.mono hb0).trans (hbb.mono (by omega))
  have hB14 : Below base w1 (w3.setCell ⟨sp, 15, none⟩ (.pointer (some ⟨q, 0, none⟩))) := hB13.setCell (by show base ≤ sp; omega) _
  refine ⟨⟨?_, rR.below hB14, rL.below hB14, rC.below hB14, g.below hB14 ok.g, Nat.le_trans hb0 hB14.size⟩, hn hP.kS.lt, ⟨(hP.kC.below hbb hP.kC.lt).far (p := ⟨sp, 15, none⟩) e1 _, hn hP.kC.lt⟩, ⟨(hP.kV.below hbb hP.kV.lt).far (p := ⟨sp, 15, none⟩) e2 _, hn hP.kV.lt⟩, ⟨(hP.kB.below hbb hP.kB.lt).far (p := ⟨sp, 15, none⟩) e3 _, hn hP.kB.lt⟩, ⟨(hP.kH.below hbb hP.kH.lt).far (p := ⟨sp, 15, none⟩) e4 _, hn hP.kH.lt⟩, by simp [SP.put], by simp [SP.put], by simp [SP.put], ?_, ?_⟩
  · have := (hP.kS.below hbb hP.kS.lt).set_ 15 (.pointer (some ⟨q, 0, none⟩))
    simpa [SP.cells, SP.cells0, SP.put] using this
  · have hq' : QB w3 base cb q F [] 0 0 := ⟨hq.1, fun k hk => ⟨by have := (hq.2 k hk).1; omega, (hq.2 k hk).2⟩⟩
    exact hq'.farCell (hn hP.kS.lt) _
  · exact ⟨by show base ≤ sp; omega, by show base ≤ cb; omega, by show base ≤ bb; omega, by show base ≤ fb; omega, by show base ≤ hb; omega⟩
theorem put_ok {a : SP} (ok : a.Ok) {base sp cb bb fb hb q : Nat} (hg : 0 < base) : (a.put base sp cb bb fb hb q).Ok :=
  ⟨ok.R, ok.L, ok.C, ok.st, ok.tS, ok.N1, ok.S1, ok.nR, ok.nL, ok.nC, hg⟩
/-- The state when all values are infinite. -/
theorem start_st {w : World} {a : SP} {F : Nat → Prop} (h : SM w a F (List.replicate a.N vtop) (List.replicate a.N false) (List.replicate a.N (-1)) [] 0 0) : ST w a F (List.replicate a.N vtop) (List.replicate a.N false) 0 := by
  have e : ∀ i, gv (List.replicate a.N vtop) i = vtop := fun i => by
    unfold gv
    rw [List.getElem?_replicate]
    split <;> rfl
  refine ⟨_, _, 0, 0, h, ⟨fun i => by rw [e]; exact Nrm.top, by simp, fun j hj _ => ⟨e j, by rw [List.getElem?_replicate, if_pos hj]⟩, fun j x hj hx hn => ?_, fun j hj => ?_⟩, Nat.le_refl _, Nat.le_refl _⟩
  · rw [List.getElem?_replicate, if_pos hj] at hx
    injection hx with hx
    exact absurd hx.symm hn
  · rw [List.getElem?_replicate] at hj
    split at hj <;> simp at hj
end Go.Proofs.YthakcefgbggkcaaDoor

namespace Go.Proofs.YthakcefgbggkcaaDoor
open Go.RowKit

/-- What 'Span' returns. -/
def SpanPost (a : SP) (w : World) (e : Ending) (w' : World) : Prop := ∃ A c U, e = .returned (.slice A a.N c) ∧ Reads w' w'.heap.size 4 A a.N (cls ((List.range a.N).map (cel a.R a.L a.s a.t a.C U))) ∧ SSol a.R a.L a.s a.t a.C U ∧ Below w.heap.size w w'
/-- The span as it stands behind its making: where its parts lie is all that changed. -/
structure SpanMade (w wx : World) (a a' : SP) (F : Nat → Prop) (bn cb : Nat) (K : Array Value) : Prop where
  sm : SM wx a' F (List.replicate a.N ⟨0, 0⟩) (List.replicate a.N false) (List.replicate a.N 0) [] 0 0
  ok : a'.Ok
  eb : a'.base = bn
  ec : a'.cb = cb
  eN : a'.N = a.N
  eR : a'.R = a.R
  eA : a'.RA = a.RA
  post : ∀ e w', SpanPost a' w e w' → SpanPost a w e w'
  kN : Blk wx bn 24 K
  mine : Mine a' F bn
  below : Below w.heap.size w wx
theorem parts_leaf2 {w1 wx : World} {a : SP} {base sp cb bb fb hb : Nat} {cs : Array Value} (hc : (a.put base sp cb bb fb hb 0).cells0 = cs)
    (kS : Blk wx sp 87 cs) (kC : Blk wx cb 83 #[.pointer (some ⟨sp, 0, none⟩)])
    (kV : Blk wx bb 45 (vls (List.replicate a.N ⟨0, 0⟩)).toArray) (kB : Blk wx fb 4 (bools (List.replicate a.N false)).toArray) (kH : Blk wx hb 3 (ints (List.replicate a.N 0)).toArray)
    (lo : w1.heap.size ≤ sp ∧ w1.heap.size ≤ cb ∧ w1.heap.size ≤ bb ∧ w1.heap.size ≤ fb ∧ w1.heap.size ≤ hb) (below : Below w1.heap.size w1 wx) :
    ∃ cb' : Nat, Value.pointer (some ⟨cb, 0, none⟩) = .pointer (some ⟨cb', 0, none⟩) ∧ PartsPut w1 wx a base cb' := parts_leaf (by rw [hc]; exact kS) kC kV kB kH lo below
theorem parts_leaf4 {w1 wx : World} {a : SP} {base cb N : Nat} {cs : Nat → Nat → Nat → Nat → Array Value} (hN : a.N = N) (hc : ∀ base sp cb bb fb hb, (a.put base sp cb bb fb hb 0).cells0 = cs sp bb fb hb)
    (h : ∃ sp bb fb hb : Nat, Blk wx cb 83 #[.pointer (some ⟨sp, 0, none⟩)] ∧ Blk wx sp 87 (cs sp bb fb hb) ∧ Blk wx bb 45 (vls (List.replicate N ⟨0, 0⟩)).toArray ∧ Blk wx fb 4 (bools (List.replicate N false)).toArray ∧ Blk wx hb 3 (ints (List.replicate N 0)).toArray ∧
      (w1.heap.size ≤ sp ∧ w1.heap.size ≤ cb ∧ w1.heap.size ≤ bb ∧ w1.heap.size ≤ fb ∧ w1.heap.size ≤ hb) ∧ Below w1.heap.size w1 wx) :
    ∃ cb' : Nat, Value.pointer (some ⟨cb, 0, none⟩) = .pointer (some ⟨cb', 0, none⟩) ∧ PartsPut w1 wx a base cb' := by
  obtain ⟨sp, bb, fb, hb, kC, kS, kV, kB, kH, lo, hbl⟩ := h
  exact parts_leaf (by rw [hc]; exact kS) kC (by rw [hN]; exact kV) (by rw [hN]; exact kB) (by rw [hN]; exact kH) lo hbl
theorem Blk.set1 {w : World} {g : Nat} {t : TypeId} {x : Value} (h : Blk w g t #[x]) (u : Value) : Blk (w.setCell ⟨g, 0, none⟩ u) g t #[u] := h.set_ 0 u
theorem ST.toB {w w' : World} {a : SP} {F G : Nat → Prop} {V : List Vl} {B : List Bool} {m : Nat} (h : ST w a F V B m) (hs : Stp a w F w' G) : Below a.base w w' := by
  obtain ⟨H, Q, nx, ck, h1, _⟩ := h
  exact hs.toBelow (fun k hk => (h1.hQ.2 k hk).1) ⟨h1.lo.2.2.1, h1.lo.2.2.2.1, h1.lo.2.2.2.2⟩ h1.rd.bs
theorem span_made {w w1 w2 w3 : World} {a : SP} {bn cb sp bb fb hb q : Nat} {F : Nat → Prop} {K : Array Value} (ok : a.Ok) (hbn : w.heap.size = bn) (ha : a.base = bn) (hs1 : w1.heap.size = bn + 3) (hb1 : Below w.heap.size w w1) (hK : Blk w1 bn 24 K)
    (rR : Reads w bn 6 a.RA a.R.length (rls a.R)) (rL : Reads w bn 5 a.LA a.L.length (ars a.L)) (rC : Reads w bn 4 a.CA a.cs.length (cls a.cs)) (g : NoneAt w)
    (hP : Parts w1 w2 (a.put bn sp cb bb fb hb 0)) (hq : QB w3 w2.heap.size cb q F [] 0 0) (hb3 : Below w2.heap.size w2 w3) :
    SpanMade w (w3.setCell ⟨sp, 15, none⟩ (.pointer (some ⟨q, 0, none⟩))) a (a.put bn sp cb bb fb hb q) F bn cb K := by
  have hg : 0 < bn := by rw [← ha]; exact ok.g
  have hok : (a.put bn sp cb bb fb hb q).Ok := put_ok ok hg
  have hs2 := hP.below.size
  have hlo := hP.lo
  simp only [SP.put] at hlo
  have hb1' : Below bn w w1 := by rw [← hbn]; exact hb1
  refine ⟨parts_sm hP hok (by omega) (rR.below hb1') (rL.below hb1') (rC.below hb1') (g.below hb1' hg) hq hb3, hok, rfl, rfl, rfl, rfl, rfl, fun e w' h => h, ?_, ⟨fun hf => ?_, ?_, ?_, ?_⟩, ?_⟩
  · have k2 := hK.below hP.below hK.lt
    exact (k2.below hb3 k2.lt).far (p := ⟨sp, 15, none⟩) (by show bn ≠ sp; omega) _
  · have := (hq.2 _ hf).1
    have := hP.below.size
    omega
  · show bn ≠ bb; omega
  · show bn ≠ fb; omega
  · show bn ≠ hb; omega
  · refine Below.setCell ?_ (by show w.heap.size ≤ sp; omega) _
    refine hb1.trans ((hP.below.mono (by omega)).trans (hb3.mono (by omega)))
theorem insts_cnt {a : SP} (ok : a.Ok) (r : Rl) : (insts a.L a.s a.t r).length ≤ 10000 := by
  have h1 := ok.nL
  have h2 := ok.tS
  have h3 := ok.S1
  unfold insts
  split
  · split <;> simp
  · split
    · unfold arcsOf
      refine Nat.le_trans (List.length_filterMap_le _ _) ?_
      rw [List.length_range]
      exact h1
    · split
      · simp
      · unfold splits
        rw [List.length_map, List.length_range]
        omega
theorem infoCl : (Tryd.prog.info? 47).map (fun i => (i.zero, i.size, i.bytes)) = some (some (.agg #[.int .i64 0, .int .i64 0, .int .i64 0, .int .i64 0]), 4, 32) := by kernel_rfl
/-- The cells of the first i nonterminals. -/
def celsTo (a : SP) (U : Nat → Vl) (i : Nat) : List Cl := (List.range i).map (cel a.R a.L a.s a.t a.C U)
theorem celsTo_snoc (a : SP) (U : Nat → Vl) (i : Nat) : celsTo a U (i + 1) = celsTo a U i ++ [cel a.R a.L a.s a.t a.C U i] := by
  unfold celsTo
  rw [List.range_succ, List.map_append]
  rfl
theorem celsTo_len (a : SP) (U : Nat → Vl) (i : Nat) : (celsTo a U i).length = i := by simp [celsTo]
theorem cls_append (l m : List Cl) : cls (l ++ m) = cls l ++ cls m := by simp [cls]
theorem cls_push {w wr w1 : World} {base : Nat} {v : Value} {acc : List Cl} {t : Cl} {v' : Value} (hb : Below base w wr) (hbase : base ≤ w.heap.size)
    (h : w1.ownsRow base 47 4 v' (acc.length + 1) (cls acc ++ t.cells)) (hg : wr.grownBy w1 v.ownBlock) (hown : wr.ownsRow base 47 4 v acc.length (cls acc)) :
    w1.ownsRow base 47 4 v' (acc ++ [t]).length (cls (acc ++ [t])) ∧ Below base w w1 := by
  refine ⟨?_, hb.grown hg (by have := hb.size; omega) (fun k hk => (hown.lt k hk).1)⟩
  rw [cls_append, List.length_append]
  simpa [cls] using h
end Go.Proofs.YthakcefgbggkcaaDoor
