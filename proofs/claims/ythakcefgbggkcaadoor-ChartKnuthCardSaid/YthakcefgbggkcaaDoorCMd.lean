/- The queue's contracts. -/
import Derived.Test.YthakcefgbggkcaaDoorCMc
import Derived.StillTailTactics
namespace Go.Proofs.YthakcefgbggkcaaDoor
open Go.RowKit

/-- The first of the entries. -/
def IsMin (m : Ent) (L : List Ent) : Prop := m ∈ L ∧ ∀ e ∈ L, e.t ≠ m.t → bf m e = true
theorem heap_min {l L : List Ent} {m : Ent} (hH : HeapOrd bf l) (hp : l.Perm L) (hm : l[0]? = some m) : IsMin m L := by
  refine ⟨hp.mem_iff.1 (List.mem_of_getElem? hm), fun e he ht => ?_⟩
  obtain ⟨k, hk⟩ := List.getElem?_of_mem (hp.mem_iff.2 he)
  have := hH.root bf_ord k (List.getElem?_eq_some_iff.1 hk).1 m e hm hk
  exact bf_total ht this
theorem IsMin.uniq {m m' : Ent} {L : List Ent} (h : IsMin m L) (h' : IsMin m' L) (hd : (L.map Ent.t).Nodup) : m = m' := by
  by_cases e : m'.t = m.t
  · obtain ⟨i, hi⟩ := List.getElem?_of_mem h.1
    obtain ⟨j, hj⟩ := List.getElem?_of_mem h'.1
    have a1 : (L.map Ent.t)[i]? = some m.t := by rw [List.getElem?_map, hi]; rfl
    have a2 : (L.map Ent.t)[j]? = some m.t := by rw [List.getElem?_map, hj, ← e]; rfl
    have hij := (List.getElem?_inj (List.getElem?_eq_some_iff.1 a1).1 hd).1 (a1.trans a2.symm)
    subst hij
    rw [hi] at hj
    injection hj
  · have b1 := h.2 m' h'.1 e
    have b2 := h'.2 m h.1 (fun e' => e e'.symm)
    rw [bf_ord.asym b1] at b2
    cases b2

end Go.Proofs.YthakcefgbggkcaaDoor

namespace Go.Proofs.YthakcefgbggkcaaDoor
open Go.RowKit

theorem set_next {w : World} {q : Nat} {a0 a1 a2 a3 a4 x y : Value} (h : Blk w q 104 #[a0, a1, a2, a3, a4]) :
    Blk (((w.setCell ⟨q, 3, none⟩ x).setCell ⟨q, 4, none⟩ y).drew) q 104 #[a0, a1, a2, x, y] ∧ Touch (fun k => k = q) w (((w.setCell ⟨q, 3, none⟩ x).setCell ⟨q, 4, none⟩ y).drew) := by
  refine ⟨?_, (((Touch.refl (fun k => k = q) w).setCell (p := ⟨q, 3, none⟩) (.inl rfl) x).setCell (p := ⟨q, 4, none⟩) (.inl rfl) y).drew1⟩
  have h2 : Blk ((w.setCell ⟨q, 3, none⟩ x).setCell ⟨q, 4, none⟩ y) q 104 #[a0, a1, a2, x, y] := by
    have := (h.set_ 3 x).set_ 4 y
    simpa using this
  exact h2.drewN 1
theorem push_set {w : World} {q gg n cap : Nat} {a0 a1 a2 a3 a4 : Value} (h : Blk w q 104 #[a0, a1, a2, a3, a4]) : Blk (w.setCell ⟨q, 1, none⟩ (.slice (some ⟨gg, 0, none⟩) (n + 1) cap)) q 104 #[a0, .slice (some ⟨gg, 0, none⟩) (n + 1) cap, a2, a3, a4] := by
  have := h.set_ 1 (.slice (some ⟨gg, 0, none⟩) (n + 1) cap)
  simpa using this
theorem push_agree {l : List Ent} {f : Int → Option Nat} {n nx : Nat} (h : Agree l f) (hn : l.length = n) (hb : ∀ e ∈ l, e.h < nx) {e : Ent} (he : e.h = nx) : Agree (l ++ [e]) (fput f nx n) := by
  subst hn
  refine ⟨fun i t ht => ?_, fun k i hk => ?_⟩
  · rcases Nat.lt_or_ge i l.length with hi | hi
    · rw [List.getElem?_append_left hi] at ht
      have := hb t (List.mem_of_getElem? ht)
      simp only [fput]
      rw [if_neg (by omega)]
      exact h.toF i t ht
    · rw [List.getElem?_append_right hi] at ht
      have hi2 := (List.getElem?_eq_some_iff.1 ht).1
      simp at hi2
      have hi3 : i = l.length := by omega
      subst hi3
      simp at ht
      subst ht
      simp [fput, he]
  · simp only [fput] at hk
    by_cases e1 : k = (nx : Int)
    · rw [if_pos e1] at hk
      injection hk with hk
      subst hk
      exact ⟨e, by simp, by rw [he, e1]⟩
    · rw [if_neg e1] at hk
      obtain ⟨t, ht, htk⟩ := h.fro k i hk
      exact ⟨t, by rw [List.getElem?_append_left (List.getElem?_eq_some_iff.1 ht).1]; exact ht, htk⟩
theorem QOk.push {L : List Ent} {nx ck : Nat} (h : QOk L nx ck) (hnx : nx < 100000000) (hck : ck < 100000000) {e : Ent} (he : e.h = nx) (ht : e.t = ck) : QOk (L ++ [e]) (nx + 1) (ck + 1) := by
  refine ⟨fun t hm => ?_, fun t hm => ?_, ?_, by have := h.len; simp; omega, by omega, by omega⟩
  · rcases List.mem_append.1 hm with h1 | h1
    · have := h.hb t h1; omega
    · simp at h1; subst h1; omega
  · rcases List.mem_append.1 hm with h1 | h1
    · have := h.tb t h1; omega
    · simp at h1; subst h1; omega
  · rw [List.map_append, List.nodup_append]
    refine ⟨h.td, by simp, fun a ha b hb => ?_⟩
    obtain ⟨t, h1, rfl⟩ := List.mem_map.1 ha
    simp at hb
    have := h.tb t h1
    omega
theorem own_drew {w : World} {base : Nat} {e : TypeId} {size n : Nat} {v : Value} {xs : List Value} (h : w.ownsRow base e size v n xs) : w.drew.ownsRow base e size v n xs := h
theorem infoEnt : (Tryd.prog.info? 114).map (fun i => (i.zero, i.size, i.bytes)) = some (some (.agg #[.int .i64 0, .int .i64 0, .int .i64 0]), 3, 24) := by kernel_rfl

abbrev ldH (p : Operand) : Op := .load 102 p
theorem ldH_eq (p : Operand) : Op.load 102 p = ldH p := rfl
abbrev ldI (p : Operand) : Op := .load 3 p
theorem ldI_eq (p : Operand) : Op.load 3 p = ldI p := rfl

set_option maxRecDepth 100000 in
set_option maxHeartbeats 2000000 in
theorem push_any (w : World) (Z : Zq) (F : Nat → Prop) (q nx ck : Nat) (L : List Ent) (x0 x1 x2 : Int) (h : PQ w F Z.cb q L nx ck) (HE : Env w Z) (hD : ∀ k, Z.D k → ¬ F k) (hC : ∀ e ∈ L, Coh Z e) (hC0 : Coh Z ⟨x0, x1, x2, nx, ck⟩) (hnx : nx < 100000000) (hck : ck < 100000000) :
    Calls Tryd.prog 58 #[.pointer (some ⟨q, 0, none⟩), .int .i64 x0] w fun e w' => e = .returned (.int .i64 nx) ∧ QPost w F Z.cb q (L ++ [⟨x0, x1, x2, nx, ck⟩]) (nx + 1) (ck + 1) w' := by
  obtain ⟨i0, hi0, hz0, hz1, hz2⟩ := info_parts infoEnt
  obtain ⟨l, f, ⟨A, c, b, K, O, M, h1, h2, h3⟩, hA, hp, hH, hok⟩ := h
  have HV := Lib.hid HE
  have HDD := Lib.hid hD
  have HC := Lib.hid hC
  have HC0 := Lib.hid hC0
  clear HE hD hC hC0
  have hlen := hp.length_eq
  have hll := hok.len
  obtain ⟨n, hN⟩ : ∃ n, l.length = n := ⟨_, rfl⟩
  have HK := Lib.hid K
  have HO := Lib.hid O
  have HM := Lib.hid M
  have H1 := Lib.hid h1
  have H2 := Lib.hid h2
  have H3 := Lib.hid h3
  have HA := Lib.hid hA
  have HP := Lib.hid hp
  have HH := Lib.hid hH
  have HOK := Lib.hid hok
  have HN := Lib.hid hN
  have hql := K.lt
  have q1 := K.cell 1
  have q3 := K.cell 3
  simp at q1 q3
  rw [hN] at q1
  have hn1 : n ≤ nx := by omega
  clear K O M h1 h2 h3 hA hp hH hok hlen hll hN
  go_enter Tryd.func58, Tryd.ntmps58
  go_wp2_with fail
  go_quiet (fail)
  go_upto_region 2 with fail
  obtain ⟨W, hW⟩ : ∃ W, w.drewN nq = W := ⟨_, rfl⟩
  rw [hW]
  have hbW : Below w.heap.size w W := by rw [← hW]; exact below_drewN (Below.refl _ _) _
  have hsW : W.heap.size = w.heap.size := by rw [← hW]; rfl
  clear hW q1 q3
  have KW := HK.out.below hbW hql
  have OW := own_below HO.out hbW
  have MW := HM.out.keep (hbW.block b HM.out.lt)
  have hne := own_blk_ne OW KW (by decide)
  have hbA := MW.ne_own OW
  rw [HN.out] at OW KW hne hbA
  have HOW := Lib.hid OW
  have HKW := Lib.hid KW
  have HMW := Lib.hid MW
  have NE := Lib.hid hne
  have NB := Lib.hid hbA
  have k1 := KW.cell 1
  have k4 := KW.cell 4
  simp at k1 k4
  have NEWS := Lib.hid (show ∀ j u, (Ent.cells ⟨x0, x1, x2, nx, ck⟩)[j]? = some u → ((W.alloc (.cells #[.int .i64 x0, .int .i64 nx, .int .i64 ck] 114)).drew).cell? ((⟨w.heap.size, 0, none⟩ : Addr).add j) = some u from
    fun j u hu => by
      rw [Addr.add_lit, Nat.zero_add, ← hsW]
      have h := (Blk.new' W 114 #[.int .i64 x0, .int .i64 nx, .int .i64 ck] rfl).cell j
      refine Eq.trans h ?_
      rw [← Array.getElem?_toList]
      exact hu)
  have KWA : Blk (W.alloc (.cells #[.int .i64 x0, .int .i64 nx, .int .i64 ck] 114)) q 104 #[.func (.func 44) #[] #[.pointer (some ⟨Z.cb, 0, none⟩)], .slice A n c, .map (some b), .int .i64 nx, .int .i64 ck] := KW.alloc _
  have k1a := KWA.cell 1
  simp at k1a
  have HOA := Lib.hid (show ((W.alloc (.cells #[.int .i64 x0, .int .i64 nx, .int .i64 ck] 114)).drew).ownsRow 0 114 3 (.slice A n c) n (ents l) from own_drew (OW.alloc _))
  have HKA := Lib.hid (show Blk ((W.alloc (.cells #[.int .i64 x0, .int .i64 nx, .int .i64 ck] 114)).drew) q 104 #[.func (.func 44) #[] #[.pointer (some ⟨Z.cb, 0, none⟩)], .slice A n c, .map (some b), .int .i64 nx, .int .i64 ck] from KWA.drewN 1)
  have HMA := Lib.hid (show MapI ((W.alloc (.cells #[.int .i64 x0, .int .i64 nx, .int .i64 ck] 114)).drew) b nx f from (MW.alloc _).drew)
  have HSA := Lib.hid (show ((W.alloc (.cells #[.int .i64 x0, .int .i64 nx, .int .i64 ck] 114)).drew).heap.size = W.heap.size + 1 by show (W.alloc _).heap.size = _; simp)
  have HTA := Lib.hid (show Touch F w ((W.alloc (.cells #[.int .i64 x0, .int .i64 nx, .int .i64 ck] 114)).drew) from ((Touch.of_below hbW).alloc _).drewN 1)
  have NE' := Lib.hid (show some q ≠ (Value.slice A n c).ownBlock from fun e => hne e.symm)
  have NB' := Lib.hid (show some b ≠ (Value.slice A n c).ownBlock from fun e => hbA e.symm)
  have HS0 := Lib.hid (show W.drew.cell? ⟨q, 4, none⟩ = some (.int .i64 ck) from (KW.cell 4))
  have HS1 := Lib.hid (show ((W.alloc (.cells #[.int .i64 x0, .int .i64 nx, .int .i64 ck] 114)).drew).cell? ⟨q, 4, none⟩ = some (.int .i64 ck) from (HKA.out.cell 4))
  have hbq : b ≠ q := HM.out.ne_blk HK.out
  clear OW KW KWA MW hne hbA
  go_cut [] (fun wx => ∃ gg cap : Nat, Blk wx q 104 #[.func (.func 44) #[] #[.pointer (some ⟨Z.cb, 0, none⟩)], .slice (some ⟨gg, 0, none⟩) (n + 1) cap, .map (some b), .int .i64 nx, .int .i64 ck] ∧ wx.ownsRow 0 114 3 (.slice (some ⟨gg, 0, none⟩) (n + 1) cap) (n + 1) (ents l ++ Ent.cells ⟨x0, x1, x2, nx, ck⟩) ∧ MapI wx b nx f ∧
    ((Value.slice A n c).ownBlock = some gg ∨ w.heap.size ≤ gg) ∧ gg ≠ q ∧ Touch F w wx)
  case first =>
    simp only [ldH_eq]
    go_region_held3 (fun w' => w'.cell? ⟨q, 4, none⟩ = some (.int .i64 ck))
      (first | with_reducible exact HS0.out | with_reducible exact HS1.out | with_reducible exact HS2.out | with_reducible exact HS3.out)
      (first | (refine step_append_lies _ (by rfl) _ _ 102 (by rfl) 0 114 i0 (.agg #[.int .i64 0, .int .i64 0, .int .i64 0]) 3 24 Tryd.underlying102 hi0 hz0 hz1 hz2 rfl (by decide) (.slice A n c) n (ents l) (by rfl) HOA.out ⟨w.heap.size, 0, none⟩ 1 1 (Ent.cells ⟨x0, x1, x2, nx, ck⟩) (by rfl) (by rfl) NEWS.out (by simp [Ent.cells, Value.oneCell']) (by omega) (by unfold maxLen; omega) (by omega) (Nat.zero_le _) (W.heap.size + 1) HSA.out ?_; intro gg cap w1 hown1 hgrow hat hlt1; have K1 := HKA.out.grown hgrow NE'.out; have p1 := K1.cell 1; have z1 := K1.frozen 1; have HS2 := Lib.hid (show w1.cell? ⟨q, 4, none⟩ = some (.int .i64 ck) from (K1.cell 4)); have K1s := push_set (gg := gg) (n := n) (cap := cap) K1; have HS3 := Lib.hid (show (w1.setCell ⟨q, 1, none⟩ (.slice (some ⟨gg, 0, none⟩) (n + 1) cap)).cell? ⟨q, 4, none⟩ = some (.int .i64 ck) from (K1s.cell 4)); simp at p1))
    all_goals
      go_wp2_with fail
      go_meet
      have hgq : gg ≠ q := by
        rcases hat with h | h
        · exact fun e => NE.out (e ▸ h)
        · intro e; omega
      refine ⟨gg, cap, K1s, ?_, ?_, ?_, hgq, ?_⟩
      · exact own_touch (F := fun k => k = q) hown1 ((Touch.refl (fun k => k = q) w1).setCell (p := ⟨q, 1, none⟩) (.inl rfl) _) (fun k hk e => hgq (by
          have : gg = k := by simpa [Value.ownBlock] using hk
          omega))
      · exact (HMA.out.keep (hgrow.block b HMA.out.lt NB'.out)).setCell hbq _
      · rcases hat with h | h
        · exact .inl h
        · right; omega
      · exact (HTA.out.grown hgrow (fun k hk => .inl (H3.out k (by rw [HN.out]; exact hk)))).setCell (.inl H1.out) _
  case rest =>
  obtain ⟨gg, cap, K2, O2, M2, hat, hgq, T2⟩ := hcut
  rename World => w2
  have hfn : f (nx : Int) = none := by
    cases hf : f (nx : Int) with
    | none => rfl
    | some i =>
      obtain ⟨e, he, hek⟩ := HA.out.fro _ _ hf
      have := HOK.out.hb e (HP.out.mem_iff.1 (List.mem_of_getElem? he))
      omega
  obtain ⟨w3, hr3, M3, X3⟩ := M2.put (wfN (n := nx) (by omega)) (v := n) (by omega) (by unfold maxLen; omega)
  rw [hfn] at M3
  have T3 := turned_touch X3
  have K3 := K2.touch T3 (fun (e : q = b) => hbq e.symm)
  have hbg : b ≠ gg := fun e => M2.ne_own O2 (by rw [e]; rfl)
  have O3 := own_touch O2 T3 (fun k hk e => by
    have : gg = k := by simpa [Value.ownBlock] using hk
    exact hbg (by omega))
  have T3' : Touch F w w3 := T2.trans T3 (fun k hk => .inl (hk ▸ H2.out))
  have j2 := K2.cell 2
  have s3 := K3.cell 3
  have s4 := K3.cell 4
  have zz3 := K3.frozen 3
  have zz4 := K3.frozen 4
  simp at j2 s3 s4
  have HM3 := Lib.hid M3
  have HK3 := Lib.hid K3
  have HO3 := Lib.hid O3
  have HTT := Lib.hid T3'
  have HAT := Lib.hid hat
  have HHT := Lib.hid hgq
  have HBG := Lib.hid hbg
  have HBQ := Lib.hid hbq
  clear K2 M2 O2 T2 hfn X3 M3 T3 K3 O3 T3' hat hgq hbg hbq hbW
  go_upto_region 4 with fail
  have u1 : IntKind.i64.wrap ((nx : Int) + 1) = (nx : Int) + 1 := IntWalk.i64_in _ (by omega)
  have u2 : IntKind.i64.wrap ((ck : Int) + 1) = (ck : Int) + 1 := IntWalk.i64_in _ (by omega)
  go_cut [] (fun wx => Blk wx q 104 #[.func (.func 44) #[] #[.pointer (some ⟨Z.cb, 0, none⟩)], .slice (some ⟨gg, 0, none⟩) (n + 1) cap, .map (some b), .int .i64 ((nx : Int) + 1), .int .i64 ((ck : Int) + 1)] ∧ Touch (fun k => k = q) w3 wx)
  case first =>
    simp only [ldI_eq]
    go_region_held3 (fun _ => True) (trivial) (fail)
    all_goals
      go_wp2_with fail
      go_meet
      exact set_next HK3.out
  case rest =>
    obtain ⟨K5, T5⟩ := hcut
    rename World => w5
    have hql5 := T5.size
    have M5 : MapI w5 b (nx + 1) (fput f nx n) := HM3.out.keep (T5.block b HM3.out.lt HBQ.out)
    have O5 := own_touch HO3.out T5 (fun k hk e => by
      have : gg = k := by simpa [Value.ownBlock] using hk
      exact HHT.out (by omega))
    have e1 : ents l ++ Ent.cells ⟨x0, x1, x2, nx, ck⟩ = ents (l ++ [(⟨x0, x1, x2, nx, ck⟩ : Ent)]) := by rw [ents_append]; simp [ents]
    have e2 : n + 1 = (l ++ [(⟨x0, x1, x2, nx, ck⟩ : Ent)]).length := by rw [List.length_append, HN.out]; rfl
    rw [e1, e2] at O5
    rw [e2] at K5
    have hnl : n < (l ++ [(⟨x0, x1, x2, nx, ck⟩ : Ent)]).length := by omega
    have hAp : Agree (l ++ [(⟨x0, x1, x2, nx, ck⟩ : Ent)]) (fput f nx n) := push_agree (e := (⟨x0, x1, x2, nx, ck⟩ : Ent)) HA.out HN.out (fun e he => by have := HOK.out.hb e (HP.out.mem_iff.1 he); omega) rfl
    have hpu := HH.out.push (⟨x0, x1, x2, nx, ck⟩ : Ent)
    rw [HN.out] at hpu
    have HPU := Lib.hid hpu
    have HOKN := Lib.hid (HOK.out.push hnx hck (e := (⟨x0, x1, x2, nx, ck⟩ : Ent)) rfl rfl)
    have hbound : HB (l ++ [(⟨x0, x1, x2, nx, ck⟩ : Ent)]) := by
      intro e he
      rcases List.mem_append.1 he with h | h
      · have := HOK.out.hb e (HP.out.mem_iff.1 h); omega
      · simp at h; subst h; show nx ≤ _; omega
    have HHB := Lib.hid hbound
    have HAp := Lib.hid hAp
    have HQ5 := Lib.hid (show QR w5 Z.cb q gg cap b (l ++ [(⟨x0, x1, x2, nx, ck⟩ : Ent)]) (nx + 1) (ck + 1) (fput f nx n) from ⟨K5, O5, M5⟩)
    have HBD : Hid (¬ Z.D b) := fun hd => HDD.out _ hd H2.out
    have hvl : ∀ k, Z.D k → k < w.heap.size := fun k hk => by
      rcases hk with e | e | e
      · rw [e]; exact HV.out.1.lt
      · rw [e]; exact World.block_lt_of_cell? w _ HV.out.2.1
      · rw [e]; exact HV.out.2.2.1.lt
    have HGD : Hid (¬ Z.D gg) := fun hd => by
      rcases HAT.out with h | h
      · exact HDD.out _ hd (H3.out gg (by rw [HN.out]; exact h))
      · have := hvl _ hd; omega
    have HV5 := Lib.hid (HV.out.touch (HTT.out.trans T5 (fun k hk => .inl (hk ▸ H1.out))) (fun k hk => HDD.out k hk))
    have HCN : Hid (∀ e ∈ l ++ [(⟨x0, x1, x2, nx, ck⟩ : Ent)], Coh Z e) := fun e he => by
      rcases List.mem_append.1 he with h | h
      · exact HC.out e (HP.out.mem_iff.1 h)
      · simp at h; subst h; exact HC0.out
    clear hvl
    clear K5 O5 M5 e1 e2 hAp hpu hbound s3 s4 zz3 zz4
    go_wp2_with fail
    refine (up_any w5 Z q gg cap b (nx + 1) (ck + 1) HV5.out ⟨HGD.out, HBD.out⟩ (l ++ [(⟨x0, x1, x2, nx, ck⟩ : Ent)]) HCN.out _ n hnl HQ5.out HAp.out (by omega) (by rw [List.length_append, HN.out]; show n + 1 ≤ _; omega) HHB.out HPU.out.1).mono ?_
    rintro e w6 ⟨v, l', f', i', rfl, HQ6, HA6, HP6, _, HD6, HK6, T6⟩
    go_wp2_with fail
    go_ret
    refine ⟨rfl, fun k => F k ∨ k = gg, ⟨l', f', ⟨some ⟨gg, 0, none⟩, cap, b, HQ6.1, HQ6.2.1, HQ6.2.2, .inl H1.out, .inl H2.out, ?_⟩, HA6, HP6.trans (HP.out.append_right _), HD6.heap (HK6 HPU.out.2), HOKN.out⟩, ?_, ?_⟩
    · intro k hk
      right
      have : gg = k := by simpa [Value.ownBlock] using hk
      exact this.symm
    · refine (HTT.out.trans T5 (fun k hk => .inl (hk ▸ H1.out))).trans T6 (fun k hk => ?_)
      rcases hk with hk | hk
      · rcases HAT.out with h | h
        · exact .inl (H3.out k (by rw [HN.out, hk]; exact h))
        · exact .inr (by omega)
      · exact .inl (hk ▸ H2.out)
    · intro k hk
      rcases hk with hk | hk
      · exact .inl hk
      · rcases HAT.out with h | h
        · exact .inl (H3.out k (by rw [HN.out, hk]; exact h))
        · exact .inr (by omega)
end Go.Proofs.YthakcefgbggkcaaDoor

namespace Go.Proofs.YthakcefgbggkcaaDoor
open Go.RowKit

theorem wpList_drop {ops : Array Oper} {rest : List Oper} {o : Oper} {a : Act} {Q : Exit → Act → World → Prop} {w : World} (hg : o.guard = none) (m x : Operand)
    (hop : o.op = Op.call { callee := Callee.builtin Builtin.delete, args := #[m, x], argTypes := #[101, 3] }) {b n : Nat} {f : Int → Option Nat} {k : Int} (hm : a.eval m = .map (some b)) (hx : a.eval x = .int .i64 k)
    (M : MapI w b n f) (hk : (Lit.int .i64 k).wf = true) (h : ∀ w', MapI w' b n (fdel f k) → w.mapTurned w' b → wpList Tryd.prog ops Q rest (a.put o.dst (.tuple #[])) w') : wpList Tryd.prog ops Q (o :: rest) a w := by
  refine wpList_plain hg fun K' hK' => ?_
  obtain ⟨w', hrun, r1, r2⟩ := M.drop hk o.type
  unfold Oper.wp
  simp [execOp, hop, resolve, invoke, builtin, hm, hx, hrun, Result.andThen]
  exact hK' _ _ (h w' r1 r2)
theorem pop_set {w : World} {q g n c : Nat} {a0 a1 a2 a3 a4 : Value} (h : Blk w q 104 #[a0, a1, a2, a3, a4]) : Blk (w.setCell ⟨q, 1, none⟩ (.slice (some ⟨g, 0, none⟩) n c)) q 104 #[a0, .slice (some ⟨g, 0, none⟩) n c, a2, a3, a4] := by
  have := h.set_ 1 (.slice (some ⟨g, 0, none⟩) n c)
  simpa using this
theorem pop_agree {l : List Ent} {f : Int → Option Nat} {n : Nat} {m : Ent} (h : Agree l f) (hn : l.length = n + 1) (hm : l[n]? = some m) : Agree (l.take n) (fdel f m.h) := by
  have fm := h.toF n m hm
  refine ⟨fun i e he => ?_, fun k i hk => ?_⟩
  · rw [List.getElem?_take] at he
    split at he
    · rename_i hi
      have fe := h.toF i e he
      simp only [fdel]
      rw [if_neg (fun q => by rw [q, fm] at fe; injection fe with fe; omega)]
      exact fe
    · cases he
  · simp only [fdel] at hk
    split at hk
    · cases hk
    · rename_i hne
      obtain ⟨e, he, hek⟩ := h.fro k i hk
      refine ⟨e, ?_, hek⟩
      have hin : i ≠ n := fun q => by
        subst q
        rw [hm] at he
        injection he with he
        subst he
        exact hne hek.symm
      have := (List.getElem?_eq_some_iff.1 he).1
      rw [List.getElem?_take, if_pos (by omega)]
      exact he
theorem QOk.pop {L L' : List Ent} {m : Ent} {nx ck : Nat} (h : QOk L nx ck) (hp : L.Perm (m :: L')) : QOk L' nx ck := by
  refine ⟨fun e he => h.hb e (hp.mem_iff.2 (List.mem_cons_of_mem _ he)), fun e he => h.tb e (hp.mem_iff.2 (List.mem_cons_of_mem _ he)), ?_, ?_, h.nxb, h.ckb⟩
  · have := ((hp.map Ent.t).nodup_iff.1 h.td)
    rw [List.map_cons, List.nodup_cons] at this
    exact this.2
  · have h1 := hp.length_eq
    have h2 := h.len
    simp at h1
    omega

set_option maxRecDepth 100000 in
theorem pop_none (w : World) (F : Nat → Prop) (cb q nx ck : Nat) (h : PQ w F cb q [] nx ck) : Calls Tryd.prog 60 #[.pointer (some ⟨q, 0, none⟩)] w fun e w' => e = .returned (.tuple #[.int .i64 0, .bool false]) ∧ Below w.heap.size w w' := by
  obtain ⟨l, f, ⟨A, c, b, K, _⟩, _, hp, _⟩ := h
  obtain rfl : l = [] := hp.eq_nil
  have k1 := K.cell 1
  simp at k1
  clear K
  go_enter Tryd.func60, Tryd.ntmps60
  go_wp2_with fail
  go_ret2
  exact ⟨rfl, (Below.refl _ _).alloc (Nat.le_refl _) _⟩

set_option maxRecDepth 100000 in
set_option maxHeartbeats 2000000 in
theorem pop_some (w : World) (Z : Zq) (F : Nat → Prop) (q nx ck : Nat) (L : List Ent) (h : PQ w F Z.cb q L nx ck) (HE : Env w Z) (hD : ∀ k, Z.D k → ¬ F k) (hC : ∀ e ∈ L, Coh Z e) (hL : L ≠ []) : Calls Tryd.prog 60 #[.pointer (some ⟨q, 0, none⟩)] w fun e w' =>
    ∃ m L', IsMin m L ∧ L.Perm (m :: L') ∧ e = .returned (.tuple #[.int .i64 m.node, .bool true]) ∧ QPost w F Z.cb q L' nx ck w' := by
  obtain ⟨l, f, ⟨A, c, b, K, O, M, h1, h2, h3⟩, hA, hp, hH, hok⟩ := h
  have hl : 0 < l.length := by
    rw [hp.length_eq]
    exact List.length_pos_iff.2 hL
  obtain ⟨g, cur, rfl, hg⟩ := O.form hl
  obtain ⟨m, hm⟩ : ∃ m, l[0]? = some m := ⟨_, List.getElem?_eq_getElem hl⟩
  have HMin := Lib.hid (heap_min hH hp hm)
  have hll : l.length ≤ 100000000 := by have := hok.len; have := hok.nxb; have := hp.length_eq; omega
  have hnxb := hok.nxb
  have HV := Lib.hid HE
  have HDD := Lib.hid hD
  have HC := Lib.hid hC
  clear HE hD hC
  have hqg : q ≠ g := Blk.ne_ K hg (by decide)
  have hql := K.lt
  have hgl := Blk.lt hg
  have hbl := M.lt
  obtain ⟨e0, e1, e2⟩ := O.at_ hm
  simp only [Nat.zero_mul, Nat.zero_add] at e0 e1 e2
  have k1 := K.cell 1
  simp at k1
  obtain ⟨n, hn⟩ : ∃ n, l.length = n + 1 := ⟨l.length - 1, by omega⟩
  have hne : ((l.length : Int) == 0) = false := by rw [beq_eq_false_iff_ne]; omega
  have hne' : l ≠ [] := by intro e; rw [e] at hl; simp at hl
  have hii : (0 : Int) < (l.length : Int) := by omega
  have u1 : IntKind.i64.wrap ((l.length : Int) - 1) = (n : Int) := by rw [show (l.length : Int) - 1 = (n : Int) by omega]; exact IntWalk.i64_in _ (by omega)
  have HK := Lib.hid K
  have HO := Lib.hid O
  have HMp := Lib.hid M
  have HA := Lib.hid hA
  have HP := Lib.hid hp
  have HH := Lib.hid hH
  have HOK := Lib.hid hok
  have HM0 := Lib.hid hm
  have HN := Lib.hid hn
  have H1 := Lib.hid h1
  have H2 := Lib.hid h2
  have H3 := Lib.hid h3
  clear K O M h1 h2 h3 hA hp hH hok hm hg hn
  obtain ⟨m0, mc, ms, mh, mt⟩ := m
  simp only at e0 e1 e2
  go_enter Tryd.func60, Tryd.ntmps60
  go_upto_region 3 with fail
  have h9 : ∀ w9, Below w.heap.size w w9 → w9.cell? ⟨q, 1, none⟩ = some (.slice (some ⟨g, 0, none⟩) l.length c) ∧ w9.cell? ⟨g, 0, none⟩ = some (.int .i64 m0) ∧ w9.cell? ⟨g, 1, none⟩ = some (.int .i64 (mh : Nat)) ∧ w9.cell? ⟨g, 2, none⟩ = some (.int .i64 (mt : Nat)) ∧ Below w.heap.size w w9 := fun w9 h => ⟨((bcell h).1 _ _ hql).trans k1, ((bcell h).1 _ _ hgl).trans e0, ((bcell h).1 _ _ hgl).trans e1, ((bcell h).1 _ _ hgl).trans e2, h⟩
  have H9 := Lib.hid h9
  clear h9
  go_region_held3 (fun w' => w'.cell? ⟨q, 1, none⟩ = some (.slice (some ⟨g, 0, none⟩) l.length c) ∧ w'.cell? ⟨g, 0, none⟩ = some (.int .i64 m0) ∧ w'.cell? ⟨g, 1, none⟩ = some (.int .i64 (mh : Nat)) ∧ w'.cell? ⟨g, 2, none⟩ = some (.int .i64 (mt : Nat)) ∧ Below w.heap.size w w')
    ((refine H9.out _ ?_; repeat (first | exact Below.refl _ _ | refine Below.drew ?_ | refine Below.alloc ?_ (by simp) _ | refine Below.setCell ?_ (by simp) _))) (fail)
  obtain ⟨w1, hw1⟩ : ∃ w1, (w.alloc (.cells #[.int .i64 m0, .int .i64 mh, .int .i64 mt] 114)).drew = w1 := ⟨_, rfl⟩
  rw [hw1]
  have hb1 : Below w.heap.size w w1 := by rw [← hw1]; exact ((Below.refl _ _).alloc (Nat.le_refl _) _).drew
  have F1 : Blk w1 w.heap.size 114 #[.int .i64 m0, .int .i64 mh, .int .i64 mt] := by rw [← hw1]; exact (Blk.new' w _ _ rfl).drewN 1
  have K1 := HK.out.below hb1 hql
  have O1 : OwnE w1 (some ⟨g, 0, none⟩) c l := own_below HO.out hb1
  have M1 := HMp.out.keep (hb1.block b HMp.out.lt)
  have T1 : Touch F w w1 := Touch.of_below hb1
  obtain ⟨y, hy⟩ : ∃ y, l[n]? = some y := ⟨_, List.getElem?_eq_getElem (by have := HN.out; omega)⟩
  have HY := Lib.hid hy
  have HF1 := Lib.hid F1
  clear hw1 H9 e0 e1 e2 k1 HK HO HMp hb1 F1 hy u1 hii hne hne'
  have hmh : mh < nx := HOK.out.hb _ (HP.out.mem_iff.1 (List.mem_of_getElem? HM0.out))
  have hyh : y.h < nx := HOK.out.hb _ (HP.out.mem_iff.1 (List.mem_of_getElem? HY.out))
  go_wp2_with fail
  refine (swap_any w1 Z.cb q g c b nx ck l f 0 n ⟨m0, mc, ms, mh, mt⟩ y K1 O1 M1 HA.out HM0.out HY.out (by omega) (by omega) ⟨by show mh ≤ _; omega, by omega⟩).mono ?_
  rintro e w2 ⟨v, rfl, K2, O2, M2, T2⟩
  have hswl : (swp l 0 n).length = n + 1 := by rw [swp_length]; exact HN.out
  have hswm : (swp l 0 n)[n]? = some ⟨m0, mc, ms, mh, mt⟩ := by rw [swp_at hl (by have := HN.out; omega), if_pos rfl]; exact HM0.out
  have hbq : b ≠ q := M1.ne_blk K1
  have hbg : b ≠ g := fun e => M1.ne_own O1 (by rw [e]; rfl)
  have hnf : ¬ (w.heap.size = g ∨ w.heap.size = b) := by omega
  have F2 := HF1.out.touch T2 hnf
  have T2' : Touch F w w2 := T1.trans T2 (fun k hk => .inl (by
    rcases hk with hk | hk
    · exact H3.out k (by rw [hk]; rfl)
    · exact hk ▸ H2.out))
  have A2 := swap_agree HA.out HM0.out HY.out
  have q1 := K2.cell 1
  have z1 := K2.frozen 1
  simp at q1
  rw [hswl] at q1
  have hn0 : (0 : Int) ≤ (n : Int) := by omega
  have hnc : (n : Int) ≤ (c : Int) := by
    obtain ⟨A', c', e, hnc, _⟩ := own_form O2
    injection e with _ _ e
    subst e
    rw [hswl] at hnc
    omega
  have hnc' : n ≤ c := by omega
  have HK2 := Lib.hid K2
  have HO2 := Lib.hid (O2.take (m := n) (by omega))
  have HM2 := Lib.hid M2
  have HF2 := Lib.hid F2
  have HT2 := Lib.hid T2'
  have HA2 := Lib.hid (pop_agree A2 hswl hswm)
  have HD2 := Lib.hid (HH.out.pop HN.out)
  clear K1 O1 M1 K2 O2 M2 T1 T2 T2' F2 A2 HF1 HA hswm
  go_upto_region 6 with fail
  obtain ⟨w3, hw3⟩ : ∃ w3, w2.setCell ⟨q, 1, none⟩ (.slice (some ⟨g, 0, none⟩) n c) = w3 := ⟨_, rfl⟩
  rw [hw3]
  have hS3 : Touch (fun k => k = q) w2 w3 := by rw [← hw3]; exact (Touch.refl (fun k => k = q) w2).setCell (p := ⟨q, 1, none⟩) (.inl rfl) _
  have hln : ((swp l 0 n).take n).length = n := by rw [List.length_take, hswl]; omega
  have K3 : Blk w3 q 104 #[.func (.func 44) #[] #[.pointer (some ⟨Z.cb, 0, none⟩)], .slice (some ⟨g, 0, none⟩) ((swp l 0 n).take n).length c, .map (some b), .int .i64 nx, .int .i64 ck] := by
    rw [hln, ← hw3]
    exact pop_set HK2.out
  have O3 : OwnE w3 (some ⟨g, 0, none⟩) c ((swp l 0 n).take n) := own_touch HO2.out hS3 (fun k hk e => by
    have : g = k := by simpa [Value.ownBlock] using hk
    exact hqg (by omega))
  have M3 := HM2.out.keep (hS3.block b HM2.out.lt hbq)
  have F3 := HF2.out.touch hS3 (by omega)
  have j2 := K3.cell 2
  have j1 := F3.cell 1
  simp at j2 j1
  have HK3 := Lib.hid K3
  have HO3 := Lib.hid O3
  have HM3 := Lib.hid (show MapI w3.drew b nx _ from M3.drew)
  have HF3 := Lib.hid F3
  have HT3 := Lib.hid (HT2.out.trans hS3 (fun k hk => .inl (hk ▸ H1.out)))
  have HWF := Lib.hid (wfN (n := mh) (by omega))
  clear hw3 hS3 K3 O3 M3 F3 HK2 HO2 HM2 HF2 HT2 q1 z1 hn0 hnc hnc' hnf
  go_still_tail 6, (by kernel_rfl)
  change wpList _ _ _ _ _ w3.drew
  go_upto_region 7 with (first | (refine wpList_drop rfl _ _ rfl rfl rfl HM3.out HWF.out ?_; intro w4 M4 X4))
  have T4 : Touch (fun k => k = b) w3 w4 := (turned_touch X4).undrew
  have K4 := HK3.out.touch T4 (fun (e : q = b) => hbq e.symm)
  have O4 : OwnE w4 (some ⟨g, 0, none⟩) c ((swp l 0 n).take n) := own_touch HO3.out T4 (fun k hk e => by
    have : g = k := by simpa [Value.ownBlock] using hk
    exact hbg (by omega))
  have F4 := HF3.out.touch T4 (by omega)
  have HT4 := Lib.hid (HT3.out.trans T4 (fun k hk => .inl (hk ▸ H2.out)))
  have HB4 : HB ((swp l 0 n).take n) := fun e he => by
    have := HOK.out.hb e (HP.out.mem_iff.1 ((swp_perm 0 n).mem_iff.1 (List.mem_of_mem_take he)))
    omega
  have HQ4 := Lib.hid (show QR w4 Z.cb q g c b ((swp l 0 n).take n) nx ck _ from ⟨K4, O4, M4⟩)
  have HF4 := Lib.hid F4
  clear X4 T4 K4 O4 M4 F4 j2 j1 HK3 HO3 HM3 HF3 HT3
  go_wp2_with fail
  have HV4 := Lib.hid (HV.out.touch HT4.out (fun k hk => HDD.out k hk))
  have HCN : Hid (∀ e ∈ (swp l 0 n).take n, Coh Z e) := fun e he => HC.out e (HP.out.mem_iff.1 ((swp_perm 0 n).mem_iff.1 (List.mem_of_mem_take he)))
  refine (down_any w4 Z q g c b nx ck HV4.out ⟨fun hd => HDD.out _ hd (H3.out g rfl), fun hd => HDD.out _ hd H2.out⟩ ((swp l 0 n).take n) HCN.out _ 0 ?_ HQ4.out HA2.out (by omega) (by rw [hln]; have := HN.out; omega) HB4 HD2.out).mono ?_
  · rcases Nat.eq_zero_or_pos n with e | e
    · right; subst e; exact ⟨rfl, List.take_zero⟩
    · left; rw [hln]; exact e
  rintro e w5 ⟨v5, l', f', rfl, HQ5, HA5, HP5, HH5, T5⟩
  have F5 := HF4.out.touch T5 (by omega)
  have f50 := F5.cell 0
  simp at f50
  have HQQ := Lib.hid HQ5
  clear HQ5 F5
  go_wp2_with fail
  go_ret2
  have TT := (HT4.out.trans T5 (fun k hk => .inl (by
    rcases hk with hk | hk
    · exact H3.out k (by rw [hk]; rfl)
    · exact hk ▸ H2.out)))
  refine ⟨⟨m0, mc, ms, mh, mt⟩, l', HMin.out, HP.out.symm.trans ((swp_last HN.out HM0.out).trans (HP5.symm.cons _)), rfl, F, ⟨l', f', ?_, HA5, List.Perm.refl _, HH5, ?_⟩, TT, fun k hk => .inl hk⟩
  · exact ⟨some ⟨g, 0, none⟩, c, b, HQQ.out.1, HQQ.out.2.1, HQQ.out.2.2, H1.out, H2.out, fun k hk => H3.out k (by rw [← hk]; rfl)⟩
  · exact HOK.out.pop (HP.out.symm.trans ((swp_last HN.out HM0.out).trans (HP5.symm.cons _)))
end Go.Proofs.YthakcefgbggkcaaDoor

namespace Go.Proofs.YthakcefgbggkcaaDoor
open Go.RowKit

theorem upd_set {w : World} {q : Nat} {a0 a1 a2 a3 a4 x : Value} (h : Blk w q 104 #[a0, a1, a2, a3, a4]) : Blk (w.setCell ⟨q, 4, none⟩ x) q 104 #[a0, a1, a2, a3, x] := by
  have := h.set_ 4 x
  simpa using this
theorem set_agree {l : List Ent} {f : Int → Option Nat} {i : Nat} {e e' : Ent} (h : Agree l f) (he : l[i]? = some e) (hh : e'.h = e.h) : Agree (l.set i e') f := by
  have hil := (List.getElem?_eq_some_iff.1 he).1
  refine ⟨fun k t ht => ?_, fun k m hk => ?_⟩
  · rw [List.getElem?_set] at ht
    by_cases hik : i = k
    · subst hik
      rw [if_pos rfl, if_pos hil] at ht
      injection ht with ht
      subst ht
      rw [hh]
      exact h.toF i e he
    · rw [if_neg hik] at ht
      exact h.toF k t ht
  · obtain ⟨t, ht, htk⟩ := h.fro k m hk
    by_cases hm : i = m
    · subst hm
      rw [he] at ht
      injection ht with ht
      subst ht
      exact ⟨e', by rw [List.getElem?_set, if_pos rfl, if_pos hil], by rw [hh]; exact htk⟩
    · exact ⟨t, by rw [List.getElem?_set, if_neg hm]; exact ht, htk⟩
theorem QOk.upd {L L1 : List Ent} {e e' : Ent} {nx ck : Nat} (h : QOk L nx ck) (hp : L.Perm (e :: L1)) (hh : e'.h = e.h) (ht : e'.t = ck) (hck : ck < 100000000) : QOk (e' :: L1) nx (ck + 1) := by
  have h1 := h.pop hp
  refine ⟨fun t hm => ?_, fun t hm => ?_, ?_, ?_, h.nxb, by omega⟩
  · rcases List.mem_cons.1 hm with rfl | hm
    · rw [hh]; exact h.hb e (hp.mem_iff.2 (by simp))
    · exact h1.hb t hm
  · rcases List.mem_cons.1 hm with rfl | hm
    · omega
    · have := h1.tb t hm; omega
  · rw [List.map_cons, List.nodup_cons]
    refine ⟨fun hm => ?_, h1.td⟩
    obtain ⟨t, h2, h3⟩ := List.mem_map.1 hm
    have := h1.tb t h2
    omega
  · have a1 := hp.length_eq
    have a2 := h.len
    simp at a1 ⊢
    omega

set_option maxRecDepth 100000 in
set_option maxHeartbeats 2000000 in
theorem update_yes (w : World) (Z : Zq) (F : Nat → Prop) (q nx ck : Nat) (L : List Ent) (hd x0 x1 x2 : Int) (h : PQ w F Z.cb q L nx ck) (HE : Env w Z) (hD : ∀ k, Z.D k → ¬ F k) (hC : ∀ e ∈ L, (e.h : Int) ≠ hd → Coh Z e) (hC0 : ∀ h t, Coh Z ⟨x0, x1, x2, h, t⟩) (hwf : (Lit.int .i64 hd).wf = true) (hck : ck < 100000000) (hyes : ∃ e ∈ L, (e.h : Int) = hd) :
    Calls Tryd.prog 57 #[.pointer (some ⟨q, 0, none⟩), .int .i64 hd, .int .i64 x0] w fun x w' => ∃ e L1, L.Perm (e :: L1) ∧ (e.h : Int) = hd ∧ x = .returned (.bool true) ∧ QPost w F Z.cb q ((⟨x0, x1, x2, e.h, ck⟩ : Ent) :: L1) nx (ck + 1) w' := by
  obtain ⟨l, f, ⟨A, c, b, K, O, M, h1, h2, h3⟩, hA, hp, hH, hok⟩ := h
  obtain ⟨e, heL, heh⟩ := hyes
  obtain ⟨i, hi⟩ := List.getElem?_of_mem (hp.mem_iff.2 heL)
  have hil := (List.getElem?_eq_some_iff.1 hi).1
  have hf : f hd = some i := by rw [← heh]; exact hA.toF i e hi
  obtain ⟨g, cur, rfl, hg⟩ := O.form hil
  have hqg : q ≠ g := Blk.ne_ K hg (by decide)
  have hgq : g ≠ q := fun e => hqg e.symm
  have hgl := Blk.lt hg
  have hql := K.lt
  have hbl := M.lt
  have hbq : b ≠ q := M.ne_blk K
  have hbg : b ≠ g := fun e => M.ne_own O (by rw [e]; rfl)
  have hll : l.length ≤ 100000000 := by have := hok.len; have := hok.nxb; have := hp.length_eq; omega
  have hnxb := hok.nxb
  have HV := Lib.hid HE
  have HDZ := Lib.hid hD
  have HC := Lib.hid hC
  have HC0 := Lib.hid hC0
  clear HE hD hC hC0
  have hr := M.look_ok hwf
  rw [hf] at hr
  simp only [Option.getD_some, Option.isSome_some] at hr
  have k1 := K.cell 1
  have k2 := K.cell 2
  have k4 := K.cell 4
  simp at k1 k2 k4
  obtain ⟨e0, e1, e2⟩ := O.at_ hi
  have f0 := O.frozen (i * 3)
  have f1 := O.frozen (i * 3 + 1)
  have f2 := O.frozen (i * 3 + 2)
  have hiI : (i : Int) < (l.length : Int) := by omega
  have HS0 := Lib.hid (show (World.drew w).cell? ⟨q, 1, none⟩ = some (.slice (some ⟨g, 0, none⟩) l.length c) ∧ (World.drew w).cell? ⟨q, 4, none⟩ = some (.int .i64 ck) from ⟨k1, k4⟩)
  have T1 : Touch (fun k => k = g) w (w.setCell ⟨g, i * 3, none⟩ (.int .i64 x0)) := ((Touch.refl (fun k => k = g) w).setCell (p := ⟨g, i * 3, none⟩) (.inl rfl) (.int .i64 x0))
  have T2 : Touch (fun k => k = g) w ((w.setCell ⟨g, i * 3, none⟩ (.int .i64 x0)).setCell ⟨g, i * 3 + 2, none⟩ (.int .i64 ck)) := (((Touch.refl (fun k => k = g) w).setCell (p := ⟨g, i * 3, none⟩) (.inl rfl) (.int .i64 x0)).setCell (p := ⟨g, i * 3 + 2, none⟩) (.inl rfl) (.int .i64 ck))
  have HS1 := Lib.hid (show (World.drew (w.setCell ⟨g, i * 3, none⟩ (.int .i64 x0))).cell? ⟨q, 1, none⟩ = some (.slice (some ⟨g, 0, none⟩) l.length c) ∧ (World.drew (w.setCell ⟨g, i * 3, none⟩ (.int .i64 x0))).cell? ⟨q, 4, none⟩ = some (.int .i64 ck) from ⟨drew_cell (keepT k1 hgq T1), drew_cell (keepT k4 hgq T1)⟩)
  have HS2 := Lib.hid (show (World.drew ((w.setCell ⟨g, i * 3, none⟩ (.int .i64 x0)).setCell ⟨g, i * 3 + 2, none⟩ (.int .i64 ck))).cell? ⟨q, 1, none⟩ = some (.slice (some ⟨g, 0, none⟩) l.length c) ∧ (World.drew ((w.setCell ⟨g, i * 3, none⟩ (.int .i64 x0)).setCell ⟨g, i * 3 + 2, none⟩ (.int .i64 ck))).cell? ⟨q, 4, none⟩ = some (.int .i64 ck) from ⟨drew_cell (keepT k1 hgq T2), drew_cell (keepT k4 hgq T2)⟩)
  have HT2 := Lib.hid T2
  have HO2 := Lib.hid (O.putx hi (⟨x0, x1, x2, e.h, ck⟩ : Ent) rfl)
  have HK1 := Lib.hid K
  have HM1 := Lib.hid M
  have HA := Lib.hid hA
  have HP := Lib.hid hp
  have HH := Lib.hid hH
  have HOK := Lib.hid hok
  have HI := Lib.hid hi
  have HE := Lib.hid heh
  have H1 := Lib.hid h1
  have H2 := Lib.hid h2
  have H3 := Lib.hid h3
  clear K O M h1 h2 h3 hA hp hH hok hi heh hg T1 T2 heL
  go_enter Tryd.func57, Tryd.ntmps57
  go_upto_region 4 with fail
  go_cut [] (fun wx => wx = World.drew ((w.setCell ⟨g, i * 3, none⟩ (.int .i64 x0)).setCell ⟨g, i * 3 + 2, none⟩ (.int .i64 ck)))
  case first =>
    go_region_held3 (fun w' => w'.cell? ⟨q, 1, none⟩ = some (.slice (some ⟨g, 0, none⟩) l.length c) ∧ w'.cell? ⟨q, 4, none⟩ = some (.int .i64 ck))
      (first | with_reducible exact HS0.out | with_reducible exact HS1.out | with_reducible exact HS2.out) (fail)
    all_goals
      go_wp2_with fail
      go_meet
      rfl
  case rest =>
  rename World => w2
  obtain ⟨e', he'⟩ : ∃ e', e' = (⟨x0, x1, x2, e.h, ck⟩ : Ent) := ⟨_, rfl⟩
  have HEE := Lib.hid (show e'.h = e.h ∧ e'.t = ck by rw [he']; exact ⟨rfl, rfl⟩)
  have O2 : OwnE w2 (some ⟨g, 0, none⟩) c (l.set i e') := by rw [hcut, he']; exact HO2.out.drew
  have T2 : Touch (fun k => k = g) w w2 := by rw [hcut]; exact HT2.out.drew1
  have K2 := HK1.out.touch T2 hqg
  have M2 := HM1.out.keep (T2.block b HM1.out.lt hbg)
  clear hcut HS0 HS1 HS2 HO2 HT2 e0 e1 e2 f0 f1 f2 k1 k2 k4 hr
  have k4 := K2.cell 4
  have z4 := K2.frozen 4
  simp at k4
  have u1 : IntKind.i64.wrap ((ck : Int) + 1) = (ck : Int) + 1 := IntWalk.i64_in _ (by omega)
  go_upto_region 6 with fail
  obtain ⟨w3, hw3⟩ : ∃ w3, w2.setCell ⟨q, 4, none⟩ (.int .i64 ((ck : Int) + 1)) = w3 := ⟨_, rfl⟩
  rw [hw3]
  have T3 : Touch (fun k => k = q) w2 w3 := by rw [← hw3]; exact (Touch.refl (fun k => k = q) w2).setCell (p := ⟨q, 4, none⟩) (.inl rfl) _
  have K3 : Blk w3 q 104 #[.func (.func 44) #[] #[.pointer (some ⟨Z.cb, 0, none⟩)], .slice (some ⟨g, 0, none⟩) (l.set i e').length c, .map (some b), .int .i64 nx, .int .i64 ((ck : Int) + 1)] := by
    rw [List.length_set, ← hw3]
    exact upd_set K2
  have O3 : OwnE w3 (some ⟨g, 0, none⟩) c (l.set i e') := own_touch O2 T3 (fun k hk e => by
    have : g = k := by simpa [Value.ownBlock] using hk
    exact hqg (by omega))
  have M3 := M2.keep (T3.block b M2.lt hbq)
  have HQ3 := Lib.hid (show QR w3 Z.cb q g c b (l.set i e') nx (ck + 1) f from ⟨K3, O3, M3⟩)
  have T3' : Touch F w w3 := ((Touch.refl F w).trans T2 (fun k hk => .inl (H3.out k (by rw [hk]; rfl)))).trans T3 (fun k hk => .inl (hk ▸ H1.out))
  have HT3 := Lib.hid T3'
  have hBd : HB (l.set i e') := fun t ht => by
    rcases List.mem_or_eq_of_mem_set ht with h | h
    · have := HOK.out.hb t (HP.out.mem_iff.1 h); omega
    · have := HOK.out.hb e (HP.out.mem_iff.1 (List.mem_of_getElem? HI.out)); have := HEE.out.1; rw [h]; omega
  have HBd := Lib.hid hBd
  clear hw3 T3 K3 O3 M3 T3' K2 O2 M2 T2 k4 z4 hBd
  go_wp2_with fail
  have hgF : F g := H3.out g rfl
  have HV3 := Lib.hid (HV.out.touch HT3.out (fun k hk => HDZ.out k hk))
  have HCN : Hid (∀ t ∈ l.set i e', Coh Z t) := fun t ht => by
    obtain ⟨k, hk⟩ := List.getElem?_of_mem ht
    rw [List.getElem?_set] at hk
    by_cases hik : i = k
    · subst hik
      rw [if_pos rfl, if_pos hil] at hk
      injection hk with hk
      rw [← hk, he']
      exact HC0.out _ _
    · rw [if_neg hik] at hk
      refine HC.out t (HP.out.mem_iff.1 (List.mem_of_getElem? hk)) (fun e1 => hik ?_)
      have h1 := HA.out.toF k t hk
      have h2 := HA.out.toF i e HI.out
      rw [HE.out, ← e1, h1] at h2
      injection h2 with h2
      exact h2.symm
  have HDG : Hid (¬ Z.D g ∧ ¬ Z.D b) := ⟨fun hd => HDZ.out _ hd hgF, fun hd => HDZ.out _ hd H2.out⟩
  refine (up_any w3 Z q g c b nx (ck + 1) HV3.out HDG.out (l.set i e') HCN.out f i (by rw [List.length_set]; exact hil) HQ3.out (set_agree HA.out HI.out HEE.out.1) (by omega) (by rw [List.length_set]; omega) HBd.out (HH.out.set bf_ord hil e')).mono ?_
  rintro x w4 ⟨v4, l', f', i', rfl, HQ4, HA4, HP4, HE4, HD4, _, T4⟩
  have hli : l'[i']? = some e' := by rw [HE4, List.getElem?_set, if_pos rfl, if_pos hil]
  have hfi : f' hd = some i' := by rw [← HE.out, ← HEE.out.1]; exact HA4.toF i' e' hli
  have hr4 := HQ4.2.2.look hwf
  rw [hfi] at hr4
  simp only [Option.getD_some] at hr4
  have k2 := HQ4.1.cell 2
  simp at k2
  have hil' := (List.getElem?_eq_some_iff.1 hli).1
  have hl4 := HP4.length_eq
  rw [List.length_set] at hl4
  have HQQ := Lib.hid HQ4
  have HAA := Lib.hid HA4
  have HPP := Lib.hid HP4
  have HDD := Lib.hid HD4
  clear HQ4 HA4 HP4 HD4 HE4 hli hfi
  go_wp2_with fail
  have hFF0 : ∀ k, (k = g ∨ k = b) → F k := fun k hk => by
    rcases hk with hk | hk
    · exact hk ▸ H3.out g rfl
    · exact hk ▸ H2.out
  refine (down_any w4 Z q g c b nx (ck + 1) (HV3.out.touch T4 (fun k hk hf => HDZ.out k hk (hFF0 k hf))) HDG.out l' (fun t ht => HCN.out t (HPP.out.mem_iff.1 ht)) f' i' (.inl hil') HQQ.out HAA.out (by omega) (by omega) (HBd.out.perm HPP.out) HDD.out).mono ?_
  rintro x w5 ⟨v5, l2, f2, rfl, HQ5, HA5, HP5, HH5, T5⟩
  go_wp2_with fail
  go_ret
  have hFF : ∀ k, (k = g ∨ k = b) → F k ∨ w.heap.size ≤ k := fun k hk => .inl (by
    rcases hk with hk | hk
    · exact hk ▸ hgF
    · exact hk ▸ H2.out)
  have hpe := HP.out.symm.trans (get_perm' HI.out)
  refine ⟨e, l.eraseIdx i, hpe, HE.out, rfl, F, ⟨l2, f2, ⟨some ⟨g, 0, none⟩, c, b, HQ5.1, HQ5.2.1, HQ5.2.2, H1.out, H2.out, fun k hk => by
      have : g = k := by simpa [Value.ownBlock] using hk
      exact this ▸ hgF⟩, HA5, ?_, HH5, ?_⟩, (HT3.out.trans T4 hFF).trans T5 hFF, fun k hk => .inl hk⟩
  · rw [← he']
    exact HP5.trans (HPP.out.trans (set_perm' hil e'))
  · exact HOK.out.upd hpe rfl rfl hck
end Go.Proofs.YthakcefgbggkcaaDoor

namespace Go.Proofs.YthakcefgbggkcaaDoor
open Go.RowKit

theorem uniq_map {α β : Type} {f : α → β} {l : List α} (h : (l.map f).Nodup) {a b : α} (ha : a ∈ l) (hb : b ∈ l) (e : f a = f b) : a = b := by
  obtain ⟨i, hi⟩ := List.getElem?_of_mem ha
  obtain ⟨j, hj⟩ := List.getElem?_of_mem hb
  have a1 : (l.map f)[i]? = some (f a) := by rw [List.getElem?_map, hi]; rfl
  have a2 : (l.map f)[j]? = some (f a) := by rw [List.getElem?_map, hj, e]; rfl
  have hij := (List.getElem?_inj (List.getElem?_eq_some_iff.1 a1).1 h).1 (a1.trans a2.symm)
  subst hij
  rw [hi] at hj
  injection hj
theorem QOk.perm {L L' : List Ent} {nx ck : Nat} (h : QOk L nx ck) (hp : L.Perm L') : QOk L' nx ck :=
  ⟨fun e he => h.hb e (hp.mem_iff.2 he), fun e he => h.tb e (hp.mem_iff.2 he), (hp.map Ent.t).nodup_iff.1 h.td, by have := hp.length_eq; have := h.len; omega, h.nxb, h.ckb⟩
section
variable {w w' : World} {F G : Nat → Prop} {cb q nx ck base : Nat} {L L' : List Ent}
theorem PQ.perm (h : PQ w F cb q L nx ck) (hp : L.Perm L') : PQ w F cb q L' nx ck := by
  obtain ⟨l, f, h1, h2, h3, h4, h5⟩ := h
  exact ⟨l, f, h1, h2, h3.trans hp, h4, h5.perm hp⟩
theorem PQ.hd (h : PQ w F cb q L nx ck) : (L.map Ent.h).Nodup := by
  obtain ⟨l, f, h1, h2, h3, h4, h5⟩ := h
  refine (h3.map Ent.h).nodup_iff.1 ?_
  rw [List.nodup_iff_pairwise_ne, List.pairwise_iff_getElem]
  intro i j hi hj hij e
  simp at hi hj
  rw [List.getElem_map, List.getElem_map] at e
  have a1 := h2.toF i _ (List.getElem?_eq_getElem hi)
  have a2 := h2.toF j _ (List.getElem?_eq_getElem hj)
  rw [e, a2] at a1
  injection a1 with a1
  omega

/-- A queue whose blocks are just F, all of them from 'base' on. -/
def QB (w : World) (base cb q : Nat) (F : Nat → Prop) (L : List Ent) (nx ck : Nat) : Prop := PQ w F cb q L nx ck ∧ ∀ k, F k → base ≤ k ∧ k < w.heap.size
/-- What a call on a queue turns. -/
structure Step (base : Nat) (w : World) (F : Nat → Prop) (w' : World) (G : Nat → Prop) : Prop where
  touch : Touch F w w'
  new : ∀ k, G k → F k ∨ w.heap.size ≤ k
  below : base ≤ w.heap.size → Below base w w'
theorem QB.below (h : QB w base cb q F L nx ck) (hb : Below w.heap.size w w') : QB w' base cb q F L nx ck := ⟨h.1.below hb, fun k hk => ⟨(h.2 k hk).1, Nat.lt_of_lt_of_le (h.2 k hk).2 hb.size⟩⟩
theorem QB.drewN (h : QB w base cb q F L nx ck) (n : Nat) : QB (w.drewN n) base cb q F L nx ck := h.below (below_drewN (Below.refl _ _) n)
theorem QB.perm (h : QB w base cb q F L nx ck) (hp : L.Perm L') : QB w base cb q F L' nx ck := ⟨h.1.perm hp, h.2⟩
theorem QB.ok (h : QB w base cb q F L nx ck) : QOk L nx ck := h.1.ok
/-- A block that is not the queue's is kept while others are written. -/
theorem QB.far (h : QB w base cb q F L nx ck) {N : Nat → Prop} (ht : Touch N w w') (hN : ∀ k, F k → ¬ N k) : QB w' base cb q F L nx ck := ⟨h.1.touch ht hN, fun k hk => ⟨(h.2 k hk).1, Nat.lt_of_lt_of_le (h.2 k hk).2 ht.size⟩⟩
theorem QB.post {nx0 ck0 : Nat} {L0 : List Ent} (h : QB w base cb q F L0 nx0 ck0) (hp : QPost w F cb q L nx ck w') : ∃ G, QB w' base cb q G L nx ck ∧ Step base w F w' G := by
  obtain ⟨G0, h1, h2, h3⟩ := hp
  obtain ⟨G, hG, h4⟩ := h1.precise
  refine ⟨G, ⟨h4, fun k hk => ⟨?_, (hG k hk).2⟩⟩, h2, fun k hk => h3 k (hG k hk).1, fun hb => h2.toBelow (fun k hk => (h.2 k hk).1) hb⟩
  rcases h3 k (hG k hk).1 with h5 | h5
  · exact (h.2 k h5).1
  · obtain ⟨e, he⟩ : ∃ e, h.1 = e := ⟨_, rfl⟩
    obtain ⟨l, f, ⟨A, c, b, K, O, M, f1, _⟩, _⟩ := h.1
    have := (h.2 _ f1).1
    have := K.lt
    omega
/-- A block that is not the queue's. -/
def PB (w : World) (F : Nat → Prop) (g : Nat) (t : TypeId) (cs : Array Value) : Prop := Blk w g t cs ∧ ¬ F g
theorem PB.step {g : Nat} {t : TypeId} {cs : Array Value} (h : PB w F g t cs) (hs : Step base w F w' G) : PB w' G g t cs :=
  ⟨h.1.touch hs.touch h.2, fun hg => by rcases hs.new g hg with h1 | h1; exact h.2 h1; have := h.1.lt; omega⟩
theorem PB.below {g : Nat} {t : TypeId} {cs : Array Value} (h : PB w F g t cs) (hb : Below w.heap.size w w') : PB w' F g t cs := ⟨h.1.below hb h.1.lt, h.2⟩
theorem QB.new (h : QB w base cb q F L nx ck) (t : TypeId) (cs : Array Value) : PB (w.alloc (.cells cs t)) F w.heap.size t cs := ⟨Blk.new' w _ _ rfl, fun hf => by have := (h.2 _ hf).2; omega⟩
theorem QB.alloc (h : QB w base cb q F L nx ck) (o : Obj) : QB (w.alloc o) base cb q F L nx ck := h.below ((Below.refl _ _).alloc (Nat.le_refl _) _)

theorem newq_any (cb : Nat) (w : World) : Calls Tryd.prog 43 #[.func (.func 44) #[] #[.pointer (some ⟨cb, 0, none⟩)]] w fun e w' => e = .returned (.pointer (some ⟨w.heap.size + 1, 0, none⟩)) ∧ (∃ F, QB w' w.heap.size cb (w.heap.size + 1) F [] 0 0) ∧ Below w.heap.size w w' :=
  (new_any cb w).mono fun e w' ⟨h1, h2, h3⟩ => by
    obtain ⟨G, hG, h4⟩ := h2.precise
    exact ⟨h1, ⟨G, h4, hG⟩, h3⟩
theorem pushq_any (Z : Zq) (x0 x1 x2 : Int) (h : QB w base Z.cb q F L nx ck) (HE : Env w Z) (hD : ∀ k, Z.D k → ¬ F k) (hC : ∀ e ∈ L, Coh Z e) (hC0 : Coh Z ⟨x0, x1, x2, nx, ck⟩) (hnx : nx < 100000000) (hck : ck < 100000000) :
    Calls Tryd.prog 58 #[.pointer (some ⟨q, 0, none⟩), .int .i64 x0] w fun e w' => e = .returned (.int .i64 nx) ∧ ∃ G, QB w' base Z.cb q G (L ++ [⟨x0, x1, x2, nx, ck⟩]) (nx + 1) (ck + 1) ∧ Step base w F w' G :=
  (push_any w Z F q nx ck L x0 x1 x2 h.1 HE hD hC hC0 hnx hck).mono fun _ _ ⟨h1, h2⟩ => ⟨h1, h.post h2⟩
theorem updq_any (Z : Zq) (hd x0 x1 x2 : Int) (h : QB w base Z.cb q F L nx ck) (HE : Env w Z) (hD : ∀ k, Z.D k → ¬ F k) (hC : ∀ e ∈ L, (e.h : Int) ≠ hd → Coh Z e) (hC0 : ∀ h t, Coh Z ⟨x0, x1, x2, h, t⟩) (hwf : (Lit.int .i64 hd).wf = true) (hck : ck < 100000000) (hyes : ∃ e ∈ L, (e.h : Int) = hd) :
    Calls Tryd.prog 57 #[.pointer (some ⟨q, 0, none⟩), .int .i64 hd, .int .i64 x0] w fun x w' => ∃ e L1, L.Perm (e :: L1) ∧ (e.h : Int) = hd ∧ x = .returned (.bool true) ∧ ∃ G, QB w' base Z.cb q G (⟨x0, x1, x2, e.h, ck⟩ :: L1) nx (ck + 1) ∧ Step base w F w' G :=
  (update_yes w Z F q nx ck L hd x0 x1 x2 h.1 HE hD hC hC0 hwf hck hyes).mono fun _ _ ⟨e, L1, h1, h2, h3, h4⟩ => ⟨e, L1, h1, h2, h3, h.post h4⟩
theorem popq_some (Z : Zq) (h : QB w base Z.cb q F L nx ck) (HE : Env w Z) (hD : ∀ k, Z.D k → ¬ F k) (hC : ∀ e ∈ L, Coh Z e) (hL : L ≠ []) :
    Calls Tryd.prog 60 #[.pointer (some ⟨q, 0, none⟩)] w fun e w' => ∃ m L', IsMin m L ∧ L.Perm (m :: L') ∧ e = .returned (.tuple #[.int .i64 m.node, .bool true]) ∧ ∃ G, QB w' base Z.cb q G L' nx ck ∧ Step base w F w' G :=
  (pop_some w Z F q nx ck L h.1 HE hD hC hL).mono fun _ _ ⟨m, L2, h1, h2, h3, h4⟩ => ⟨m, L2, h1, h2, h3, h.post h4⟩
theorem popq_none (h : QB w base cb q F [] nx ck) :
    Calls Tryd.prog 60 #[.pointer (some ⟨q, 0, none⟩)] w fun e w' => e = .returned (.tuple #[.int .i64 0, .bool false]) ∧ Below w.heap.size w w' := pop_none w F cb q nx ck h.1
end
end Go.Proofs.YthakcefgbggkcaaDoor
