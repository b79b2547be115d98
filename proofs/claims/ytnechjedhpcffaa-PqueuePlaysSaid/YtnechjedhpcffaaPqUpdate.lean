/- An element replaced. -/
import Derived.Test.YtnechjedhpcffaaPqPop
namespace Go.Proofs.Ytnechjedhpcffaa
open Go.RowKit

theorem upd_set {w : World} {q : Nat} {a0 a1 a2 a3 a4 x : Value} (h : Blk w q 49 #[a0, a1, a2, a3, a4]) : Blk (w.setCell ⟨q, 4, none⟩ x) q 49 #[a0, a1, a2, a3, x] := by
  have := h.set_ 4 x
  simpa using this
theorem set_agree {l : List Ent} {f : Int → Option Nat} {i : Nat} {e e' : Ent} (h : Agree l f) (he : l[i]? = some e) (hh : e'.h = e.h) : Agree (l.set i e') f := by
  have hil := (List.getElem?_eq_some_iff.1 he).1
  refine ⟨fun k t ht => ?_, fun k m hk => ?_⟩
  · rw [List.getElem?_set] at ht
    by_cases hik : i = k
    · subst hik
      rw [if_pos rfl, if_pos hil] at ht
      injection ht with ht
      subst ht
      rw [hh]
      exact h.to i e he
    · rw [if_neg hik] at ht
      exact h.to k t ht
  · obtain ⟨t, ht, htk⟩ := h.fro k m hk
    by_cases hm : i = m
    · subst hm
      rw [he] at ht
      injection ht with ht
      subst ht
      exact ⟨e', by rw [List.getElem?_set, if_pos rfl, if_pos hil], by rw [hh]; exact htk⟩
    · exact ⟨t, by rw [List.getElem?_set, if_neg hm]; exact ht, htk⟩
theorem QOk.upd {L L1 : List Ent} {e e' : Ent} {nx ck : Nat} (h : QOk L nx ck) (hp : L.Perm (e :: L1)) (hh : e'.h = e.h) (ht : e'.t = ck) (hck : ck < 100000000) : QOk (e' :: L1) nx (ck + 1) := by
  have h1 := h.pop hp
  refine ⟨fun t hm => ?_, fun t hm => ?_, ?_, ?_, h.nxb, by omega⟩
  · rcases List.mem_cons.1 hm with rfl | hm
    · rw [hh]; exact h.hb e (hp.mem_iff.2 (by simp))
    · exact h1.hb t hm
  · rcases List.mem_cons.1 hm with rfl | hm
    · omega
    · have := h1.tb t hm; omega
  · rw [List.map_cons, List.nodup_cons]
    refine ⟨fun hm => ?_, h1.td⟩
    obtain ⟨t, h2, h3⟩ := List.mem_map.1 hm
    have := h1.tb t h2
    omega
  · have a1 := hp.length_eq
    have a2 := h.len
    simp at a1 ⊢
    omega

set_option maxRecDepth 100000 in
theorem update_no (w : World) (F : Nat → Prop) (q nx ck : Nat) (L : List Ent) (hd x0 x1 : Int) (h : PQ w F q L nx ck) (hwf : (Lit.int .i64 hd).wf = true) (hno : ∀ e ∈ L, (e.h : Int) ≠ hd) :
    Calls Try.prog 13 #[.pointer (some ⟨q, 0, none⟩), .int .i64 hd, .agg #[.int .i64 x0, .int .i64 x1]] w fun e w' => e = .returned (.bool false) ∧ Below w.heap.size w w' := by
  obtain ⟨l, f, ⟨A, c, b, K, O, M, h1, h2, h3⟩, hA, hp, hH, hok⟩ := h
  have hf : f hd = none := by
    cases hf : f hd with
    | none => rfl
    | some i =>
      obtain ⟨e, he, hek⟩ := hA.fro _ _ hf
      exact absurd hek (hno e (hp.mem_iff.1 (List.mem_of_getElem? he)))
  have hr := (M.alloc (.cells #[.int .i64 x0, .int .i64 x1] 27)).look_ok hwf
  rw [hf] at hr
  have k2 := (K.alloc (.cells #[.int .i64 x0, .int .i64 x1] 27)).cell 2
  simp at k2
  simp only [Option.getD_none, Option.isSome_none] at hr
  clear K O M hA hp hH hok
  go_enter Try.func13, Try.ntmps13
  go_wp2_with fail
  go_ret
  exact ⟨rfl, (Below.refl _ _).alloc (Nat.le_refl _) _⟩

set_option maxRecDepth 100000 in
set_option maxHeartbeats 2000000 in
theorem update_yes (w : World) (F : Nat → Prop) (q nx ck : Nat) (L : List Ent) (hd x0 x1 : Int) (h : PQ w F q L nx ck) (hwf : (Lit.int .i64 hd).wf = true) (hck : ck < 100000000) (hyes : ∃ e ∈ L, (e.h : Int) = hd) :
    Calls Try.prog 13 #[.pointer (some ⟨q, 0, none⟩), .int .i64 hd, .agg #[.int .i64 x0, .int .i64 x1]] w fun x w' => ∃ e L1, L.Perm (e :: L1) ∧ (e.h : Int) = hd ∧ x = .returned (.bool true) ∧ QPost w F q ((⟨x0, x1, e.h, ck⟩ : Ent) :: L1) nx (ck + 1) w' := by
  obtain ⟨l, f, ⟨A, c, b, K, O, M, h1, h2, h3⟩, hA, hp, hH, hok⟩ := h
  obtain ⟨e, heL, heh⟩ := hyes
  obtain ⟨i, hi⟩ := List.getElem?_of_mem (hp.mem_iff.2 heL)
  have hil := (List.getElem?_eq_some_iff.1 hi).1
  have hf : f hd = some i := by rw [← heh]; exact hA.to i e hi
  obtain ⟨g, cur, rfl, hg⟩ := O.form hil
  have hqg : q ≠ g := Blk.ne_ K hg (by decide)
  have hgq : g ≠ q := fun e => hqg e.symm
  have hgl := Blk.lt hg
  have hql := K.lt
  have hbl := M.lt
  have hbq : b ≠ q := M.ne_blk K
  have hbg : b ≠ g := fun e => M.ne_own O (by rw [e]; rfl)
  have hll : l.length ≤ 100000000 := by have := hok.len; have := hok.nxb; have := hp.length_eq; omega
  have hnxb := hok.nxb
  obtain ⟨w1, hw1⟩ : ∃ w1, w.alloc (.cells #[.int .i64 x0, .int .i64 x1] 27) = w1 := ⟨_, rfl⟩
  have hb1 : Below w.heap.size w w1 := by rw [← hw1]; exact (Below.refl _ _).alloc (Nat.le_refl _) _
  have hs1 : w1.heap.size = w.heap.size + 1 := by rw [← hw1]; simp
  have B1 : Blk w1 w.heap.size 27 #[.int .i64 x0, .int .i64 x1] := by rw [← hw1]; exact Blk.new' w _ _ rfl
  have K1 := K.below hb1 hql
  have O1 : OwnE w1 (some ⟨g, 0, none⟩) c l := own_below O hb1
  have M1 := M.keep (hb1.block b hbl)
  have hr := M1.look_ok hwf
  rw [hf] at hr
  simp only [Option.getD_some, Option.isSome_some] at hr
  have k1 := K1.cell 1
  have k2 := K1.cell 2
  have k4 := K1.cell 4
  simp at k1 k2 k4
  have b0 := B1.cell 0
  have b1 := B1.cell 1
  simp at b0 b1
  obtain ⟨e0, e1, e2, e3⟩ := O1.at_ hi
  have f0 := O1.frozen (i * 4)
  have f1 := O1.frozen (i * 4 + 1)
  have f2 := O1.frozen (i * 4 + 2)
  have f3 := O1.frozen (i * 4 + 3)
  have hiI : (i : Int) < (l.length : Int) := by omega
  have HW1 := Lib.hid hw1
  have HS0 := Lib.hid (show (World.drew w1).cell? ⟨q, 1, none⟩ = some (.slice (some ⟨g, 0, none⟩) l.length c) ∧ (World.drew w1).cell? ⟨q, 4, none⟩ = some (.int .i64 ck) ∧ (World.drew w1).cell? ⟨w.heap.size, 0, none⟩ = some (.int .i64 x0) ∧ (World.drew w1).cell? ⟨w.heap.size, 1, none⟩ = some (.int .i64 x1) from ⟨k1, k4, b0, b1⟩)
  have T1 : Touch (fun k => k = g) w1 ((w1.setCell ⟨g, i * 4, none⟩ (.int .i64 x0)).setCell ⟨g, i * 4 + 1, none⟩ (.int .i64 x1)) := (((Touch.refl (fun k => k = g) w1).setCell (p := ⟨g, i * 4, none⟩) (.inl rfl) (.int .i64 x0)).setCell (p := ⟨g, i * 4 + 1, none⟩) (.inl rfl) (.int .i64 x1))
  have T2 : Touch (fun k => k = g) w1 (((w1.setCell ⟨g, i * 4, none⟩ (.int .i64 x0)).setCell ⟨g, i * 4 + 1, none⟩ (.int .i64 x1)).setCell ⟨g, i * 4 + 3, none⟩ (.int .i64 ck)) := ((((Touch.refl (fun k => k = g) w1).setCell (p := ⟨g, i * 4, none⟩) (.inl rfl) (.int .i64 x0)).setCell (p := ⟨g, i * 4 + 1, none⟩) (.inl rfl) (.int .i64 x1)).setCell (p := ⟨g, i * 4 + 3, none⟩) (.inl rfl) (.int .i64 ck))
  have hgw : g ≠ w.heap.size := by omega
  have HS1 := Lib.hid (show (World.drew ((w1.setCell ⟨g, i * 4, none⟩ (.int .i64 x0)).setCell ⟨g, i * 4 + 1, none⟩ (.int .i64 x1))).cell? ⟨q, 1, none⟩ = some (.slice (some ⟨g, 0, none⟩) l.length c) ∧ (World.drew ((w1.setCell ⟨g, i * 4, none⟩ (.int .i64 x0)).setCell ⟨g, i * 4 + 1, none⟩ (.int .i64 x1))).cell? ⟨q, 4, none⟩ = some (.int .i64 ck) ∧ (World.drew ((w1.setCell ⟨g, i * 4, none⟩ (.int .i64 x0)).setCell ⟨g, i * 4 + 1, none⟩ (.int .i64 x1))).cell? ⟨w.heap.size, 0, none⟩ = some (.int .i64 x0) ∧ (World.drew ((w1.setCell ⟨g, i * 4, none⟩ (.int .i64 x0)).setCell ⟨g, i * 4 + 1, none⟩ (.int .i64 x1))).cell? ⟨w.heap.size, 1, none⟩ = some (.int .i64 x1) from ⟨drew_cell (keepT k1 hgq T1), drew_cell (keepT k4 hgq T1), drew_cell (keepT b0 hgw T1), drew_cell (keepT b1 hgw T1)⟩)
  have HS2 := Lib.hid (show (World.drew (((w1.setCell ⟨g, i * 4, none⟩ (.int .i64 x0)).setCell ⟨g, i * 4 + 1, none⟩ (.int .i64 x1)).setCell ⟨g, i * 4 + 3, none⟩ (.int .i64 ck))).cell? ⟨q, 1, none⟩ = some (.slice (some ⟨g, 0, none⟩) l.length c) ∧ (World.drew (((w1.setCell ⟨g, i * 4, none⟩ (.int .i64 x0)).setCell ⟨g, i * 4 + 1, none⟩ (.int .i64 x1)).setCell ⟨g, i * 4 + 3, none⟩ (.int .i64 ck))).cell? ⟨q, 4, none⟩ = some (.int .i64 ck) ∧ (World.drew (((w1.setCell ⟨g, i * 4, none⟩ (.int .i64 x0)).setCell ⟨g, i * 4 + 1, none⟩ (.int .i64 x1)).setCell ⟨g, i * 4 + 3, none⟩ (.int .i64 ck))).cell? ⟨w.heap.size, 0, none⟩ = some (.int .i64 x0) ∧ (World.drew (((w1.setCell ⟨g, i * 4, none⟩ (.int .i64 x0)).setCell ⟨g, i * 4 + 1, none⟩ (.int .i64 x1)).setCell ⟨g, i * 4 + 3, none⟩ (.int .i64 ck))).cell? ⟨w.heap.size, 1, none⟩ = some (.int .i64 x1) from ⟨drew_cell (keepT k1 hgq T2), drew_cell (keepT k4 hgq T2), drew_cell (keepT b0 hgw T2), drew_cell (keepT b1 hgw T2)⟩)
  have HT2 := Lib.hid T2
  have HO2 := Lib.hid (O1.putx hi (⟨x0, x1, e.h, ck⟩ : Ent) rfl)
  have HK1 := Lib.hid K1
  have HM1 := Lib.hid M1
  have HB1 := Lib.hid hb1
  have HA := Lib.hid hA
  have HP := Lib.hid hp
  have HH := Lib.hid hH
  have HOK := Lib.hid hok
  have HI := Lib.hid hi
  have HE := Lib.hid heh
  have H1 := Lib.hid h1
  have H2 := Lib.hid h2
  have H3 := Lib.hid h3
  clear K O M h1 h2 h3 hA hp hH hok hi heh hg K1 O1 M1 B1 hb1 T1 T2 heL hf
  go_enter Try.func13, Try.ntmps13
  go_upto_region 4 with fail
  clear hw1
  go_cut [] (fun wx => wx = World.drew (((w1.setCell ⟨g, i * 4, none⟩ (.int .i64 x0)).setCell ⟨g, i * 4 + 1, none⟩ (.int .i64 x1)).setCell ⟨g, i * 4 + 3, none⟩ (.int .i64 ck)))
  case first =>
    go_region_held3 (fun w' => w'.cell? ⟨q, 1, none⟩ = some (.slice (some ⟨g, 0, none⟩) l.length c) ∧ w'.cell? ⟨q, 4, none⟩ = some (.int .i64 ck) ∧ w'.cell? ⟨w.heap.size, 0, none⟩ = some (.int .i64 x0) ∧ w'.cell? ⟨w.heap.size, 1, none⟩ = some (.int .i64 x1))
      (first | with_reducible exact HS0.out | with_reducible exact HS1.out | with_reducible exact HS2.out) (fail)
    all_goals
      go_wp2_with fail
      go_meet
      rfl
  case rest =>
  rename World => w2
  obtain ⟨e', he'⟩ : ∃ e', e' = (⟨x0, x1, e.h, ck⟩ : Ent) := ⟨_, rfl⟩
  have HEE := Lib.hid (show e'.h = e.h ∧ e'.t = ck by rw [he']; exact ⟨rfl, rfl⟩)
  have O2 : OwnE w2 (some ⟨g, 0, none⟩) c (l.set i e') := by rw [hcut, he']; exact HO2.out.drew
  have T2 : Touch (fun k => k = g) w1 w2 := by rw [hcut]; exact HT2.out.drew1
  have K2 := HK1.out.touch T2 hqg
  have M2 := HM1.out.keep (T2.block b HM1.out.lt hbg)
  clear hcut HS0 HS1 HS2 HO2 HT2 b0 b1 e0 e1 e2 e3 f0 f1 f2 f3 k1 k2 k4 hr
  have k4 := K2.cell 4
  have z4 := K2.frozen 4
  simp at k4
  have u1 : IntKind.i64.wrap ((ck : Int) + 1) = (ck : Int) + 1 := IntWalk.i64_in _ (by omega)
  go_upto_region 6 with fail
  obtain ⟨w3, hw3⟩ : ∃ w3, w2.setCell ⟨q, 4, none⟩ (.int .i64 ((ck : Int) + 1)) = w3 := ⟨_, rfl⟩
  rw [hw3]
  have T3 : Touch (fun k => k = q) w2 w3 := by rw [← hw3]; exact (Touch.refl (fun k => k = q) w2).setCell (p := ⟨q, 4, none⟩) (.inl rfl) _
  have K3 : Blk w3 q 49 #[.func (.func 10) #[] #[], .slice (some ⟨g, 0, none⟩) (l.set i e').length c, .map (some b), .int .i64 nx, .int .i64 ((ck : Int) + 1)] := by
    rw [List.length_set, ← hw3]
    exact upd_set K2
  have O3 : OwnE w3 (some ⟨g, 0, none⟩) c (l.set i e') := own_touch O2 T3 (fun k hk e => by
    have : g = k := by simpa [Value.ownBlock] using hk
    exact hqg (by omega))
  have M3 := M2.keep (T3.block b M2.lt hbq)
  have HQ3 := Lib.hid (show QR w3 q g c b (l.set i e') nx (ck + 1) f from ⟨K3, O3, M3⟩)
  have T3' : Touch F w w3 := ((Touch.of_below HB1.out).trans T2 (fun k hk => .inl (H3.out k (by rw [hk]; rfl)))).trans T3 (fun k hk => .inl (hk ▸ H1.out))
  have HT3 := Lib.hid T3'
  have hBd : HB (l.set i e') := fun t ht => by
    rcases List.mem_or_eq_of_mem_set ht with h | h
    · have := HOK.out.hb t (HP.out.mem_iff.1 h); omega
    · have := HOK.out.hb e (HP.out.mem_iff.1 (List.mem_of_getElem? HI.out)); have := HEE.out.1; rw [h]; omega
  have HBd := Lib.hid hBd
  clear hw3 T3 K3 O3 M3 T3' K2 O2 M2 T2 k4 z4 hBd
  go_wp2_with fail
  refine (up_any w3 q g c b nx (ck + 1) (l.set i e') f i (by rw [List.length_set]; exact hil) HQ3.out (set_agree HA.out HI.out HEE.out.1) (by omega) (by rw [List.length_set]; omega) HBd.out (HH.out.set bf_ord hil e')).mono ?_
  rintro x w4 ⟨v4, l', f', i', rfl, HQ4, HA4, HP4, HE4, HD4, _, T4⟩
  have hli : l'[i']? = some e' := by rw [HE4, List.getElem?_set, if_pos rfl, if_pos hil]
  have hfi : f' hd = some i' := by rw [← HE.out, ← HEE.out.1]; exact HA4.to i' e' hli
  have hr4 := HQ4.2.2.look hwf
  rw [hfi] at hr4
  simp only [Option.getD_some] at hr4
  have k2 := HQ4.1.cell 2
  simp at k2
  have hil' := (List.getElem?_eq_some_iff.1 hli).1
  have hl4 := HP4.length_eq
  rw [List.length_set] at hl4
  have HQQ := Lib.hid HQ4
  have HAA := Lib.hid HA4
  have HPP := Lib.hid HP4
  have HDD := Lib.hid HD4
  clear HQ4 HA4 HP4 HD4 HE4 hli hfi
  go_wp2_with fail
  refine (down_any w4 q g c b nx (ck + 1) l' f' i' (.inl hil') HQQ.out HAA.out (by omega) (by omega) (HBd.out.perm HPP.out) HDD.out).mono ?_
  rintro x w5 ⟨v5, l2, f2, rfl, HQ5, HA5, HP5, HH5, T5⟩
  go_wp2_with fail
  go_ret
  have hgF : F g := H3.out g rfl
  have hFF : ∀ k, (k = g ∨ k = b) → F k ∨ w.heap.size ≤ k := fun k hk => .inl (by
    rcases hk with hk | hk
    · exact hk ▸ hgF
    · exact hk ▸ H2.out)
  have hpe := HP.out.symm.trans (get_perm' HI.out)
  refine ⟨e, l.eraseIdx i, hpe, HE.out, rfl, F, ⟨l2, f2, ⟨some ⟨g, 0, none⟩, c, b, HQ5.1, HQ5.2.1, HQ5.2.2, H1.out, H2.out, fun k hk => by
      have : g = k := by simpa [Value.ownBlock] using hk
      exact this ▸ hgF⟩, HA5, ?_, HH5, ?_⟩, (HT3.out.trans T4 hFF).trans T5 hFF, fun k hk => .inl hk⟩
  · rw [← he']
    exact HP5.trans (HPP.out.trans (set_perm' hil e'))
  · exact HOK.out.upd hpe rfl rfl hck
end Go.Proofs.Ytnechjedhpcffaa
