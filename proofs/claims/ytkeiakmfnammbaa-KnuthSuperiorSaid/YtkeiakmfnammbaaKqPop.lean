/- The first element removed. -/
import Derived.Test.YtkeiakmfnammbaaKqPeek
import Derived.Test.YtkeiakmfnammbaaKqPush
import Derived.StillTailTactics
namespace Go.Proofs.Ytkeiakmfnammbaa
open Go.RowKit

theorem wpList_drop {ops : Array Oper} {rest : List Oper} {o : Oper} {a : Act} {Q : Exit → Act → World → Prop} {w : World} (hg : o.guard = none) (m x : Operand)
    (hop : o.op = Op.call { callee := Callee.builtin Builtin.delete, args := #[m, x], argTypes := #[72, 3] }) {b n : Nat} {f : Int → Option Nat} {k : Int} (hm : a.eval m = .map (some b)) (hx : a.eval x = .int .i64 k)
    (M : MapI w b n f) (hk : (Lit.int .i64 k).wf = true) (h : ∀ w', MapI w' b n (fdel f k) → w.mapTurned w' b → wpList Try.prog ops Q rest (a.put o.dst (.tuple #[])) w') : wpList Try.prog ops Q (o :: rest) a w := by
  refine wpList_plain hg fun K' hK' => ?_
  obtain ⟨w', hrun, r1, r2⟩ := M.drop hk o.type
  unfold Oper.wp
  simp [execOp, hop, resolve, invoke, builtin, hm, hx, hrun, Result.andThen]
  exact hK' _ _ (h w' r1 r2)
theorem pop_set {w : World} {q g n c : Nat} {a0 a1 a2 a3 a4 : Value} (h : Blk w q 75 #[a0, a1, a2, a3, a4]) : Blk (w.setCell ⟨q, 1, none⟩ (.slice (some ⟨g, 0, none⟩) n c)) q 75 #[a0, .slice (some ⟨g, 0, none⟩) n c, a2, a3, a4] := by
  have := h.set_ 1 (.slice (some ⟨g, 0, none⟩) n c)
  simpa using this
theorem pop_agree {l : List Ent} {f : Int → Option Nat} {n : Nat} {m : Ent} (h : Agree l f) (hn : l.length = n + 1) (hm : l[n]? = some m) : Agree (l.take n) (fdel f m.h) := by
  have fm := h.to n m hm
  refine ⟨fun i e he => ?_, fun k i hk => ?_⟩
  · rw [List.getElem?_take] at he
    split at he
    · rename_i hi
      have fe := h.to i e he
      simp only [fdel]
      rw [if_neg (fun q => by rw [q, fm] at fe; injection fe with fe; omega)]
      exact fe
    · cases he
  · simp only [fdel] at hk
    split at hk
    · cases hk
    · rename_i hne
      obtain ⟨e, he, hek⟩ := h.fro k i hk
      refine ⟨e, ?_, hek⟩
      have hin : i ≠ n := fun q => by
        subst q
        rw [hm] at he
        injection he with he
        subst he
        exact hne hek.symm
      have := (List.getElem?_eq_some_iff.1 he).1
      rw [List.getElem?_take, if_pos (by omega)]
      exact he
theorem QOk.pop {L L' : List Ent} {m : Ent} {nx ck : Nat} (h : QOk L nx ck) (hp : L.Perm (m :: L')) : QOk L' nx ck := by
  refine ⟨fun e he => h.hb e (hp.mem_iff.2 (List.mem_cons_of_mem _ he)), fun e he => h.tb e (hp.mem_iff.2 (List.mem_cons_of_mem _ he)), ?_, ?_, h.nxb, h.ckb⟩
  · have := ((hp.map Ent.t).nodup_iff.1 h.td)
    rw [List.map_cons, List.nodup_cons] at this
    exact this.2
  · have h1 := hp.length_eq
    have h2 := h.len
    simp at h1
    omega

set_option maxRecDepth 100000 in
theorem pop_none (w : World) (F : Nat → Prop) (q nx ck : Nat) (h : PQ w F q [] nx ck) : Calls Try.prog 32 #[.pointer (some ⟨q, 0, none⟩)] w fun e w' => e = .returned (.tuple #[.agg #[.int .i64 0, .int .i64 0, .int .i64 0], .bool false]) ∧ Below w.heap.size w w' := by
  obtain ⟨l, f, ⟨A, c, b, K, _⟩, _, hp, _⟩ := h
  obtain rfl : l = [] := hp.eq_nil
  have k1 := (K.alloc (.cells #[.int .i64 0, .int .i64 0, .int .i64 0] 64)).cell 1
  simp at k1
  clear K
  go_enter Try.func32, Try.ntmps32
  go_wp2_with fail
  have C := (Blk.new' w 64 #[.int .i64 0, .int .i64 0, .int .i64 0] rfl).alloc (.cells #[.int .i64 0, .int .i64 0, .int .i64 0] 64)
  exact bodyPost_ret (results_elem rfl rfl (C.cell 0) (C.cell 1) (C.cell 2) rfl) rfl ⟨rfl, ((Below.refl _ _).alloc (Nat.le_refl _) _).alloc (by simp) _⟩

set_option maxRecDepth 100000 in
set_option maxHeartbeats 2000000 in
theorem pop_some (w : World) (F : Nat → Prop) (q nx ck : Nat) (L : List Ent) (h : PQ w F q L nx ck) (hL : L ≠ []) : Calls Try.prog 32 #[.pointer (some ⟨q, 0, none⟩)] w fun e w' =>
    ∃ m L', IsMin m L ∧ L.Perm (m :: L') ∧ e = .returned (.tuple #[.agg #[.int .i64 m.node, .int .i64 m.cost, .int .i64 m.size], .bool true]) ∧ QPost w F q L' nx ck w' := by
  obtain ⟨l, f, ⟨A, c, b, K, O, M, h1, h2, h3⟩, hA, hp, hH, hok⟩ := h
  have hl : 0 < l.length := by
    rw [hp.length_eq]
    exact List.length_pos_iff.2 hL
  obtain ⟨g, cur, rfl, hg⟩ := O.form hl
  obtain ⟨m, hm⟩ : ∃ m, l[0]? = some m := ⟨_, List.getElem?_eq_getElem hl⟩
  have HMin := Lib.hid (heap_min hH hp hm)
  have hll : l.length ≤ 100000000 := by have := hok.len; have := hok.nxb; have := hp.length_eq; omega
  have hnxb := hok.nxb
  obtain ⟨w0, hw0⟩ : ∃ w0, w.alloc (.cells #[.int .i64 0, .int .i64 0, .int .i64 0] 64) = w0 := ⟨_, rfl⟩
  have hb0 : Below w.heap.size w w0 := by rw [← hw0]; exact (Below.refl _ _).alloc (Nat.le_refl _) _
  have hs0 : w0.heap.size = w.heap.size + 1 := by rw [← hw0]; simp
  have R0 : Blk w0 w.heap.size 64 #[.int .i64 0, .int .i64 0, .int .i64 0] := by rw [← hw0]; exact Blk.new' w _ _ rfl
  have hqg : q ≠ g := Blk.ne_ K hg (by decide)
  have hql := K.lt
  have hgl := Blk.lt hg
  have hbl := M.lt
  have K0 := K.below hb0 hql
  have O0 : OwnE w0 (some ⟨g, 0, none⟩) c l := own_below O hb0
  have M0 := M.keep (hb0.block b hbl)
  obtain ⟨e0, e1, e2, e3, e4⟩ := O0.at_ hm
  simp only [Nat.zero_mul, Nat.zero_add] at e0 e1 e2 e3 e4
  have k1 := K0.cell 1
  simp at k1
  obtain ⟨n, hn⟩ : ∃ n, l.length = n + 1 := ⟨l.length - 1, by omega⟩
  have hne : ((l.length : Int) == 0) = false := by rw [beq_eq_false_iff_ne]; omega
  have hne' : l ≠ [] := by intro e; rw [e] at hl; simp at hl
  have hii : (0 : Int) < (l.length : Int) := by omega
  have u1 : IntKind.i64.wrap ((l.length : Int) - 1) = (n : Int) := by rw [show (l.length : Int) - 1 = (n : Int) by omega]; exact IntWalk.i64_in _ (by omega)
  have HW0 := Lib.hid hw0
  have HK := Lib.hid K0
  have HO := Lib.hid O0
  have HMp := Lib.hid M0
  have HR := Lib.hid R0
  have HA := Lib.hid hA
  have HP := Lib.hid hp
  have HH := Lib.hid hH
  have HOK := Lib.hid hok
  have HM0 := Lib.hid hm
  have HN := Lib.hid hn
  have H1 := Lib.hid h1
  have H2 := Lib.hid h2
  have H3 := Lib.hid h3
  clear K O M h1 h2 h3 hA hp hH hok hm hg K0 O0 M0 R0 hw0 hn
  obtain ⟨m0, m1, m2, mh, mt⟩ := m
  simp only at e0 e1 e2 e3 e4
  go_enter Try.func32, Try.ntmps32
  have k1w := HK.out.cell 1
  rw [← HW0.out] at k1w
  simp at k1w
  go_upto_region 3 with fail
  rw [HW0.out]
  clear k1w
  have hql0 : q < w0.heap.size := by omega
  have hgl0 : g < w0.heap.size := by omega
  have h9 : ∀ w9, Below w0.heap.size w0 w9 → w9.cell? ⟨q, 1, none⟩ = some (.slice (some ⟨g, 0, none⟩) l.length c) ∧ w9.cell? ⟨g, 0, none⟩ = some (.int .i64 m0) ∧ w9.cell? ⟨g, 1, none⟩ = some (.int .i64 m1) ∧ w9.cell? ⟨g, 2, none⟩ = some (.int .i64 m2) ∧ w9.cell? ⟨g, 3, none⟩ = some (.int .i64 (mh : Nat)) ∧ w9.cell? ⟨g, 4, none⟩ = some (.int .i64 (mt : Nat)) ∧ Below w0.heap.size w0 w9 := fun w9 h => ⟨((bcell h).1 _ _ hql0).trans k1, ((bcell h).1 _ _ hgl0).trans e0, ((bcell h).1 _ _ hgl0).trans e1, ((bcell h).1 _ _ hgl0).trans e2, ((bcell h).1 _ _ hgl0).trans e3, ((bcell h).1 _ _ hgl0).trans e4, h⟩
  have H9 := Lib.hid h9
  clear h9
  go_region_held3 (fun w' => w'.cell? ⟨q, 1, none⟩ = some (.slice (some ⟨g, 0, none⟩) l.length c) ∧ w'.cell? ⟨g, 0, none⟩ = some (.int .i64 m0) ∧ w'.cell? ⟨g, 1, none⟩ = some (.int .i64 m1) ∧ w'.cell? ⟨g, 2, none⟩ = some (.int .i64 m2) ∧ w'.cell? ⟨g, 3, none⟩ = some (.int .i64 (mh : Nat)) ∧ w'.cell? ⟨g, 4, none⟩ = some (.int .i64 (mt : Nat)) ∧ Below w0.heap.size w0 w')
    ((refine H9.out _ ?_; repeat (first | exact Below.refl _ _ | refine Below.drew ?_ | refine Below.alloc ?_ (by simp) _ | refine Below.setCell ?_ (by simp) _))) (fail)
  obtain ⟨w1, hw1⟩ : ∃ w1, (w0.alloc (.cells #[.int .i64 m0, .int .i64 m1, .int .i64 m2, .int .i64 mh, .int .i64 mt] 79)).drew = w1 := ⟨_, rfl⟩
  rw [hw1]
  have hb1 : Below w0.heap.size w0 w1 := by rw [← hw1]; exact ((Below.refl _ _).alloc (Nat.le_refl _) _).drew
  have F1 : Blk w1 (w.heap.size + 1) 79 #[.int .i64 m0, .int .i64 m1, .int .i64 m2, .int .i64 mh, .int .i64 mt] := by rw [← hw1, ← hs0]; exact (Blk.new' w0 _ _ rfl).drewN 1
  have R1 := HR.out.below hb1 HR.out.lt
  have K1 := HK.out.below hb1 hql0
  have O1 : OwnE w1 (some ⟨g, 0, none⟩) c l := own_below HO.out hb1
  have M1 := HMp.out.keep (hb1.block b HMp.out.lt)
  have T1 : Touch F w w1 := Touch.of_below (hb0.trans (hb1.mono (by omega)))
  obtain ⟨y, hy⟩ : ∃ y, l[n]? = some y := ⟨_, List.getElem?_eq_getElem (by have := HN.out; omega)⟩
  have HY := Lib.hid hy
  have HF1 := Lib.hid F1
  have HR1 := Lib.hid R1
  clear hw1 H9 e0 e1 e2 e3 e4 k1 HK HO HMp HR hb0 hb1 HW0 F1 R1 hy u1 hii hne hne'
  have hmh : mh < nx := HOK.out.hb _ (HP.out.mem_iff.1 (List.mem_of_getElem? HM0.out))
  have hyh : y.h < nx := HOK.out.hb _ (HP.out.mem_iff.1 (List.mem_of_getElem? HY.out))
  go_wp2_with fail
  refine (swap_any w1 q g c b nx ck l f 0 n ⟨m0, m1, m2, mh, mt⟩ y K1 O1 M1 HA.out HM0.out HY.out (by omega) (by omega) ⟨by show mh ≤ _; omega, by omega⟩).mono ?_
  rintro e w2 ⟨v, rfl, K2, O2, M2, T2⟩
  have hswl : (swp l 0 n).length = n + 1 := by rw [swp_length]; exact HN.out
  have hswm : (swp l 0 n)[n]? = some ⟨m0, m1, m2, mh, mt⟩ := by rw [swp_at hl (by have := HN.out; omega), if_pos rfl]; exact HM0.out
  have hbq : b ≠ q := M1.ne_blk K1
  have hbg : b ≠ g := fun e => M1.ne_own O1 (by rw [e]; rfl)
  have hnr : ¬ (w.heap.size = g ∨ w.heap.size = b) := by omega
  have hnf : ¬ (w.heap.size + 1 = g ∨ w.heap.size + 1 = b) := by omega
  have R2 := HR1.out.touch T2 hnr
  have F2 := HF1.out.touch T2 hnf
  have T2' : Touch F w w2 := T1.trans T2 (fun k hk => .inl (by
    rcases hk with hk | hk
    · exact H3.out k (by rw [hk]; rfl)
    · exact hk ▸ H2.out))
  have A2 := swap_agree HA.out HM0.out HY.out
  have q1 := K2.cell 1
  have z1 := K2.frozen 1
  simp at q1
  rw [hswl] at q1
  have hn0 : (0 : Int) ≤ (n : Int) := by omega
  have hnc : (n : Int) ≤ (c : Int) := by
    obtain ⟨A', c', e, hnc, _⟩ := own_form O2
    injection e with _ _ e
    subst e
    rw [hswl] at hnc
    omega
  have hnc' : n ≤ c := by omega
  have HK2 := Lib.hid K2
  have HO2 := Lib.hid (O2.take (m := n) (by omega))
  have HM2 := Lib.hid M2
  have HR2 := Lib.hid R2
  have HF2 := Lib.hid F2
  have HT2 := Lib.hid T2'
  have HA2 := Lib.hid (pop_agree A2 hswl hswm)
  have HD2 := Lib.hid (HH.out.pop HN.out)
  clear K1 O1 M1 K2 O2 M2 T1 T2 T2' R2 F2 A2 HR1 HF1 HA hswm
  go_upto_region 6 with fail
  obtain ⟨w3, hw3⟩ : ∃ w3, w2.setCell ⟨q, 1, none⟩ (.slice (some ⟨g, 0, none⟩) n c) = w3 := ⟨_, rfl⟩
  rw [hw3]
  have hS3 : Touch (fun k => k = q) w2 w3 := by rw [← hw3]; exact (Touch.refl (fun k => k = q) w2).setCell (p := ⟨q, 1, none⟩) (.inl rfl) _
  have hln : ((swp l 0 n).take n).length = n := by rw [List.length_take, hswl]; omega
  have K3 : Blk w3 q 75 #[.func (.func 30) #[] #[], .slice (some ⟨g, 0, none⟩) ((swp l 0 n).take n).length c, .map (some b), .int .i64 nx, .int .i64 ck] := by
    rw [hln, ← hw3]
    exact pop_set HK2.out
  have O3 : OwnE w3 (some ⟨g, 0, none⟩) c ((swp l 0 n).take n) := own_touch HO2.out hS3 (fun k hk e => by
    have : g = k := by simpa [Value.ownBlock] using hk
    exact hqg (by omega))
  have M3 := HM2.out.keep (hS3.block b HM2.out.lt hbq)
  have R3 := HR2.out.touch hS3 (by omega)
  have F3 := HF2.out.touch hS3 (by omega)
  have j2 := K3.cell 2
  have j1 := F3.cell 3
  simp at j2 j1
  have HK3 := Lib.hid K3
  have HO3 := Lib.hid O3
  have HM3 := Lib.hid (show MapI w3.drew b nx _ from M3.drew)
  have HR3 := Lib.hid R3
  have HF3 := Lib.hid F3
  have HT3 := Lib.hid (HT2.out.trans hS3 (fun k hk => .inl (hk ▸ H1.out)))
  have HWF := Lib.hid (wfN (n := mh) (by omega))
  clear hw3 hS3 K3 O3 M3 R3 F3 HK2 HO2 HM2 HR2 HF2 HT2 q1 z1 hn0 hnc hnc' hnr hnf
  go_still_tail 6, (by kernel_rfl)
  change wpList _ _ _ _ _ w3.drew
  go_upto_region 7 with (first | (refine wpList_drop rfl _ _ rfl rfl rfl HM3.out HWF.out ?_; intro w4 M4 X4))
  have T4 : Touch (fun k => k = b) w3 w4 := (turned_touch X4).undrew
  have K4 := HK3.out.touch T4 (fun (e : q = b) => hbq e.symm)
  have O4 : OwnE w4 (some ⟨g, 0, none⟩) c ((swp l 0 n).take n) := own_touch HO3.out T4 (fun k hk e => by
    have : g = k := by simpa [Value.ownBlock] using hk
    exact hbg (by omega))
  have R4 := HR3.out.touch T4 (by omega)
  have F4 := HF3.out.touch T4 (by omega)
  have HT4 := Lib.hid (HT3.out.trans T4 (fun k hk => .inl (hk ▸ H2.out)))
  have HB4 : HB ((swp l 0 n).take n) := fun e he => by
    have := HOK.out.hb e (HP.out.mem_iff.1 ((swp_perm 0 n).mem_iff.1 (List.mem_of_mem_take he)))
    omega
  have HQ4 := Lib.hid (show QR w4 q g c b ((swp l 0 n).take n) nx ck _ from ⟨K4, O4, M4⟩)
  have HR4 := Lib.hid R4
  have HF4 := Lib.hid F4
  clear X4 T4 K4 O4 M4 R4 F4 j2 j1 HK3 HO3 HM3 HR3 HF3 HT3
  go_wp2_with fail
  refine (down_any w4 q g c b nx ck ((swp l 0 n).take n) _ 0 ?_ HQ4.out HA2.out (by omega) (by rw [hln]; have := HN.out; omega) HB4 HD2.out).mono ?_
  · rcases Nat.eq_zero_or_pos n with e | e
    · right; subst e; exact ⟨rfl, List.take_zero⟩
    · left; rw [hln]; exact e
  rintro e w5 ⟨v5, l', f', rfl, HQ5, HA5, HP5, HH5, T5⟩
  have R5 := HR4.out.touch T5 (by omega)
  have F5 := HF4.out.touch T5 (by omega)
  have f50 := F5.cell 0
  have f51 := F5.cell 1
  have f52 := F5.cell 2
  simp at f50 f51 f52
  have r50 := R5.cell 0
  have z50 := R5.frozen 0
  have r51 := R5.cell 1
  have z51 := R5.frozen 1
  have r52 := R5.cell 2
  have z52 := R5.frozen 2
  simp at r50 r51 r52
  have HQQ := Lib.hid HQ5
  have HRR := Lib.hid R5
  clear HQ5 F5 R5
  go_wp2_with fail
  have C : Blk (((w5.setCell ⟨w.heap.size, 0, none⟩ (.int .i64 m0)).setCell ⟨w.heap.size, 1, none⟩ (.int .i64 m1)).setCell ⟨w.heap.size, 2, none⟩ (.int .i64 m2)) w.heap.size 64 #[.int .i64 m0, .int .i64 m1, .int .i64 m2] := by
    have := (((HRR.out.set_ 0 (.int .i64 m0)).set_ 1 (.int .i64 m1)).set_ 2 (.int .i64 m2))
    simpa using this
  have TS : Touch (fun k => k = w.heap.size) w5 (((w5.setCell ⟨w.heap.size, 0, none⟩ (.int .i64 m0)).setCell ⟨w.heap.size, 1, none⟩ (.int .i64 m1)).setCell ⟨w.heap.size, 2, none⟩ (.int .i64 m2)) := ((((Touch.refl (fun k => k = w.heap.size) w5).setCell (p := ⟨w.heap.size, 0, none⟩) (.inl rfl) (.int .i64 m0)).setCell (p := ⟨w.heap.size, 1, none⟩) (.inl rfl) (.int .i64 m1)).setCell (p := ⟨w.heap.size, 2, none⟩) (.inl rfl) (.int .i64 m2))
  have TT := (HT4.out.trans T5 (fun k hk => .inl (by
    rcases hk with hk | hk
    · exact H3.out k (by rw [hk]; rfl)
    · exact hk ▸ H2.out)))
  have TF : Touch F w (((w5.setCell ⟨w.heap.size, 0, none⟩ (.int .i64 m0)).setCell ⟨w.heap.size, 1, none⟩ (.int .i64 m1)).setCell ⟨w.heap.size, 2, none⟩ (.int .i64 m2)) := TT.trans TS (fun k hk => .inr (by omega))
  refine bodyPost_ret (results_elem rfl rfl (C.cell 0) (C.cell 1) (C.cell 2) rfl) rfl ⟨⟨m0, m1, m2, mh, mt⟩, l', HMin.out, HP.out.symm.trans ((swp_last HN.out HM0.out).trans (HP5.symm.cons _)), rfl, F, ⟨l', f', ?_, HA5, List.Perm.refl _, HH5, ?_⟩, TF, fun k hk => .inl hk⟩
  · exact ⟨some ⟨g, 0, none⟩, c, b, HQQ.out.1.touch TS (by omega), own_touch HQQ.out.2.1 TS (fun k hk e => by
      have : g = k := by simpa [Value.ownBlock] using hk
      omega), HQQ.out.2.2.keep (TS.block b HQQ.out.2.2.lt (by omega)), H1.out, H2.out, fun k hk => H3.out k (by rw [← hk]; rfl)⟩
  · exact HOK.out.pop (HP.out.symm.trans ((swp_last HN.out HM0.out).trans (HP5.symm.cons _)))
end Go.Proofs.Ytkeiakmfnammbaa
