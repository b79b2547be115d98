/- An element pushed. -/
import Derived.Test.YtkeiakmfnammbaaKqSt
import Derived.StillTailTactics
namespace Go.Proofs.Ytkeiakmfnammbaa
open Go.RowKit

theorem set_next {w : World} {q : Nat} {a0 a1 a2 a3 a4 x y : Value} (h : Blk w q 75 #[a0, a1, a2, a3, a4]) :
    Blk (((w.setCell ⟨q, 3, none⟩ x).setCell ⟨q, 4, none⟩ y).drew) q 75 #[a0, a1, a2, x, y] ∧ Touch (fun k => k = q) w (((w.setCell ⟨q, 3, none⟩ x).setCell ⟨q, 4, none⟩ y).drew) := by
  refine ⟨?_, (((Touch.refl (fun k => k = q) w).setCell (p := ⟨q, 3, none⟩) (.inl rfl) x).setCell (p := ⟨q, 4, none⟩) (.inl rfl) y).drew1⟩
  have h2 : Blk ((w.setCell ⟨q, 3, none⟩ x).setCell ⟨q, 4, none⟩ y) q 75 #[a0, a1, a2, x, y] := by
    have := (h.set_ 3 x).set_ 4 y
    simpa using this
  exact h2.drewN 1
theorem push_set {w : World} {q gg n cap : Nat} {a0 a1 a2 a3 a4 : Value} (h : Blk w q 75 #[a0, a1, a2, a3, a4]) : Blk (w.setCell ⟨q, 1, none⟩ (.slice (some ⟨gg, 0, none⟩) (n + 1) cap)) q 75 #[a0, .slice (some ⟨gg, 0, none⟩) (n + 1) cap, a2, a3, a4] := by
  have := h.set_ 1 (.slice (some ⟨gg, 0, none⟩) (n + 1) cap)
  simpa using this
theorem push_agree {l : List Ent} {f : Int → Option Nat} {n nx : Nat} (h : Agree l f) (hn : l.length = n) (hb : ∀ e ∈ l, e.h < nx) {e : Ent} (he : e.h = nx) : Agree (l ++ [e]) (fput f nx n) := by
  subst hn
  refine ⟨fun i t ht => ?_, fun k i hk => ?_⟩
  · rcases Nat.lt_or_ge i l.length with hi | hi
    · rw [List.getElem?_append_left hi] at ht
      have := hb t (List.mem_of_getElem? ht)
      simp only [fput]
      rw [if_neg (by omega)]
      exact h.to i t ht
    · rw [List.getElem?_append_right hi] at ht
      have hi2 := (List.getElem?_eq_some_iff.1 ht).1
      simp at hi2
      have hi3 : i = l.length := by omega
      subst hi3
      simp at ht
      subst ht
      simp [fput, he]
  · simp only [fput] at hk
    by_cases e1 : k = (nx : Int)
    · rw [if_pos e1] at hk
      injection hk with hk
      subst hk
      exact ⟨e, by simp, by rw [he, e1]⟩
    · rw [if_neg e1] at hk
      obtain ⟨t, ht, htk⟩ := h.fro k i hk
      exact ⟨t, by rw [List.getElem?_append_left (List.getElem?_eq_some_iff.1 ht).1]; exact ht, htk⟩
theorem QOk.push {L : List Ent} {nx ck : Nat} (h : QOk L nx ck) (hnx : nx < 100000000) (hck : ck < 100000000) {e : Ent} (he : e.h = nx) (ht : e.t = ck) : QOk (L ++ [e]) (nx + 1) (ck + 1) := by
  refine ⟨fun t hm => ?_, fun t hm => ?_, ?_, by have := h.len; simp; omega, by omega, by omega⟩
  · rcases List.mem_append.1 hm with h1 | h1
    · have := h.hb t h1; omega
    · simp at h1; subst h1; omega
  · rcases List.mem_append.1 hm with h1 | h1
    · have := h.tb t h1; omega
    · simp at h1; subst h1; omega
  · rw [List.map_append, List.nodup_append]
    refine ⟨h.td, by simp, fun a ha b hb => ?_⟩
    obtain ⟨t, h1, rfl⟩ := List.mem_map.1 ha
    simp at hb
    have := h.tb t h1
    omega
theorem own_drew {w : World} {base : Nat} {e : TypeId} {size n : Nat} {v : Value} {xs : List Value} (h : w.ownsRow base e size v n xs) : w.drew.ownsRow base e size v n xs := h
theorem infoEnt : (Try.prog.info? 79).map (fun i => (i.zero, i.size, i.bytes)) = some (some (.agg #[.int .i64 0, .int .i64 0, .int .i64 0, .int .i64 0, .int .i64 0]), 5, 40) := by kernel_rfl

abbrev ldH (p : Operand) : Op := .load 73 p
theorem ldH_eq (p : Operand) : Op.load 73 p = ldH p := rfl
abbrev ldI (p : Operand) : Op := .load 3 p
theorem ldI_eq (p : Operand) : Op.load 3 p = ldI p := rfl

set_option maxRecDepth 100000 in
set_option maxHeartbeats 2000000 in
theorem push_any (w : World) (F : Nat → Prop) (q nx ck : Nat) (L : List Ent) (x0 x1 x2 : Int) (h : PQ w F q L nx ck) (hnx : nx < 100000000) (hck : ck < 100000000) :
    Calls Try.prog 37 #[.pointer (some ⟨q, 0, none⟩), .agg #[.int .i64 x0, .int .i64 x1, .int .i64 x2]] w fun e w' => e = .returned (.int .i64 nx) ∧ QPost w F q (L ++ [⟨x0, x1, x2, nx, ck⟩]) (nx + 1) (ck + 1) w' := by
  obtain ⟨i0, hi0, hz0, hz1, hz2⟩ := info_parts infoEnt
  obtain ⟨l, f, ⟨A, c, b, K, O, M, h1, h2, h3⟩, hA, hp, hH, hok⟩ := h
  have hlen := hp.length_eq
  have hll := hok.len
  obtain ⟨n, hN⟩ : ∃ n, l.length = n := ⟨_, rfl⟩
  have HK := Lib.hid K
  have HO := Lib.hid O
  have HM := Lib.hid M
  have H1 := Lib.hid h1
  have H2 := Lib.hid h2
  have H3 := Lib.hid h3
  have HA := Lib.hid hA
  have HP := Lib.hid hp
  have HH := Lib.hid hH
  have HOK := Lib.hid hok
  have HN := Lib.hid hN
  have hql := K.lt
  have q1 := K.cell 1
  have q3 := K.cell 3
  simp at q1 q3
  rw [hN] at q1
  have hn1 : n ≤ nx := by omega
  clear K O M h1 h2 h3 hA hp hH hok hlen hll hN
  go_enter Try.func37, Try.ntmps37
  go_wp2_with fail
  go_quiet (fail)
  go_upto_region 2 with fail
  obtain ⟨W, hW⟩ : ∃ W, (w.alloc (.cells #[.int .i64 x0, .int .i64 x1, .int .i64 x2] 64)).drewN nq = W := ⟨_, rfl⟩
  rw [hW]
  have hbW : Below w.heap.size w W := by rw [← hW]; exact below_drewN ((Below.refl _ _).alloc (Nat.le_refl _) _) _
  have hsW : W.heap.size = w.heap.size + 1 := by rw [← hW]; show (w.alloc _).heap.size = _; simp
  have KB : Blk W w.heap.size 64 #[.int .i64 x0, .int .i64 x1, .int .i64 x2] := by rw [← hW]; exact (Blk.new' w _ _ rfl).drewN _
  clear hW q1 q3
  have KW := HK.out.below hbW hql
  have OW := own_below HO.out hbW
  have MW := HM.out.keep (hbW.block b HM.out.lt)
  have hne := own_blk_ne OW KW (by decide)
  have hbA := MW.ne_own OW
  rw [HN.out] at OW KW hne hbA
  have HOW := Lib.hid OW
  have HKW := Lib.hid KW
  have HMW := Lib.hid MW
  have NE := Lib.hid hne
  have NB := Lib.hid hbA
  have e0 := KB.cell 0
  have e1 := KB.cell 1
  have e2 := KB.cell 2
  have k1 := KW.cell 1
  have k4 := KW.cell 4
  simp at e0 e1 e2 k1 k4
  have NEWS := Lib.hid (show ∀ j u, (Ent.cells ⟨x0, x1, x2, nx, ck⟩)[j]? = some u → ((W.alloc (.cells #[.int .i64 x0, .int .i64 x1, .int .i64 x2, .int .i64 nx, .int .i64 ck] 79)).drew).cell? ((⟨w.heap.size + 1, 0, none⟩ : Addr).add j) = some u from
    fun j u hu => by
      rw [Addr.add_lit, Nat.zero_add, ← hsW]
      have h := (Blk.new' W 79 #[.int .i64 x0, .int .i64 x1, .int .i64 x2, .int .i64 nx, .int .i64 ck] rfl).cell j
      refine Eq.trans h ?_
      rw [← Array.getElem?_toList]
      exact hu)
  have KWA : Blk (W.alloc (.cells #[.int .i64 x0, .int .i64 x1, .int .i64 x2, .int .i64 nx, .int .i64 ck] 79)) q 75 #[.func (.func 30) #[] #[], .slice A n c, .map (some b), .int .i64 nx, .int .i64 ck] := KW.alloc _
  have k1a := KWA.cell 1
  simp at k1a
  have HOA := Lib.hid (show ((W.alloc (.cells #[.int .i64 x0, .int .i64 x1, .int .i64 x2, .int .i64 nx, .int .i64 ck] 79)).drew).ownsRow 0 79 5 (.slice A n c) n (ents l) from own_drew (OW.alloc _))
  have HKA := Lib.hid (show Blk ((W.alloc (.cells #[.int .i64 x0, .int .i64 x1, .int .i64 x2, .int .i64 nx, .int .i64 ck] 79)).drew) q 75 #[.func (.func 30) #[] #[], .slice A n c, .map (some b), .int .i64 nx, .int .i64 ck] from KWA.drewN 1)
  have HBA := Lib.hid (show Blk ((W.alloc (.cells #[.int .i64 x0, .int .i64 x1, .int .i64 x2, .int .i64 nx, .int .i64 ck] 79)).drew) w.heap.size 64 #[.int .i64 x0, .int .i64 x1, .int .i64 x2] from (KB.alloc _).drewN 1)
  have HMA := Lib.hid (show MapI ((W.alloc (.cells #[.int .i64 x0, .int .i64 x1, .int .i64 x2, .int .i64 nx, .int .i64 ck] 79)).drew) b nx f from (MW.alloc _).drew)
  have HSA := Lib.hid (show ((W.alloc (.cells #[.int .i64 x0, .int .i64 x1, .int .i64 x2, .int .i64 nx, .int .i64 ck] 79)).drew).heap.size = W.heap.size + 1 by show (W.alloc _).heap.size = _; simp)
  have HTA := Lib.hid (show Touch F w ((W.alloc (.cells #[.int .i64 x0, .int .i64 x1, .int .i64 x2, .int .i64 nx, .int .i64 ck] 79)).drew) from ((Touch.of_below hbW).alloc _).drewN 1)
  have NE' := Lib.hid (show some q ≠ (Value.slice A n c).ownBlock from fun e => hne e.symm)
  have NB' := Lib.hid (show some b ≠ (Value.slice A n c).ownBlock from fun e => hbA e.symm)
  have NX' := Lib.hid (show some w.heap.size ≠ (Value.slice A n c).ownBlock from fun e => by have := own_lt HO.out (k := w.heap.size) (by rw [HN.out]; exact e.symm); omega)
  have HS0 := Lib.hid (show W.drew.cell? ⟨w.heap.size, 0, none⟩ = some (.int .i64 x0) ∧ W.drew.cell? ⟨w.heap.size, 1, none⟩ = some (.int .i64 x1) ∧ W.drew.cell? ⟨w.heap.size, 2, none⟩ = some (.int .i64 x2) ∧ W.drew.cell? ⟨q, 4, none⟩ = some (.int .i64 ck) from ⟨KB.cell 0, KB.cell 1, KB.cell 2, KW.cell 4⟩)
  have HS1 := Lib.hid (show ((W.alloc (.cells #[.int .i64 x0, .int .i64 x1, .int .i64 x2, .int .i64 nx, .int .i64 ck] 79)).drew).cell? ⟨w.heap.size, 0, none⟩ = some (.int .i64 x0) ∧ ((W.alloc (.cells #[.int .i64 x0, .int .i64 x1, .int .i64 x2, .int .i64 nx, .int .i64 ck] 79)).drew).cell? ⟨w.heap.size, 1, none⟩ = some (.int .i64 x1) ∧ ((W.alloc (.cells #[.int .i64 x0, .int .i64 x1, .int .i64 x2, .int .i64 nx, .int .i64 ck] 79)).drew).cell? ⟨w.heap.size, 2, none⟩ = some (.int .i64 x2) ∧ ((W.alloc (.cells #[.int .i64 x0, .int .i64 x1, .int .i64 x2, .int .i64 nx, .int .i64 ck] 79)).drew).cell? ⟨q, 4, none⟩ = some (.int .i64 ck) from ⟨HBA.out.cell 0, HBA.out.cell 1, HBA.out.cell 2, HKA.out.cell 4⟩)
  have hbq : b ≠ q := HM.out.ne_blk HK.out
  have HQ1 := Lib.hid (show q ≠ w.heap.size by omega)
  clear OW KW KWA MW KB hne hbA
  go_cut [] (fun wx => ∃ gg cap : Nat, Blk wx q 75 #[.func (.func 30) #[] #[], .slice (some ⟨gg, 0, none⟩) (n + 1) cap, .map (some b), .int .i64 nx, .int .i64 ck] ∧ wx.ownsRow 0 79 5 (.slice (some ⟨gg, 0, none⟩) (n + 1) cap) (n + 1) (ents l ++ Ent.cells ⟨x0, x1, x2, nx, ck⟩) ∧ MapI wx b nx f ∧
    ((Value.slice A n c).ownBlock = some gg ∨ w.heap.size < gg) ∧ gg ≠ q ∧ Touch F w wx)
  case first =>
    simp only [ldH_eq]
    go_region_held3 (fun w' => w'.cell? ⟨w.heap.size, 0, none⟩ = some (.int .i64 x0) ∧ w'.cell? ⟨w.heap.size, 1, none⟩ = some (.int .i64 x1) ∧ w'.cell? ⟨w.heap.size, 2, none⟩ = some (.int .i64 x2) ∧ w'.cell? ⟨q, 4, none⟩ = some (.int .i64 ck))
      (first | with_reducible exact HS0.out | with_reducible exact HS1.out | with_reducible exact HS2.out | with_reducible exact HS3.out)
      (first | (refine step_append_lies _ (by rfl) _ _ 73 (by rfl) 0 79 i0 (.agg #[.int .i64 0, .int .i64 0, .int .i64 0, .int .i64 0, .int .i64 0]) 5 40 Try.underlying73 hi0 hz0 hz1 hz2 rfl (by decide) (.slice A n c) n (ents l) (by rfl) HOA.out ⟨w.heap.size + 1, 0, none⟩ 1 1 (Ent.cells ⟨x0, x1, x2, nx, ck⟩) (by rfl) (by rfl) NEWS.out (by simp [Ent.cells, Value.oneCell']) (by omega) (by unfold maxLen; omega) (by omega) (Nat.zero_le _) (W.heap.size + 1) HSA.out ?_; intro gg cap w1 hown1 hgrow hat hlt1; have K1 := HKA.out.grown hgrow NE'.out; have p1 := K1.cell 1; have z1 := K1.frozen 1; have B1 := HBA.out.grown hgrow NX'.out; have HS2 := Lib.hid (show w1.cell? ⟨w.heap.size, 0, none⟩ = some (.int .i64 x0) ∧ w1.cell? ⟨w.heap.size, 1, none⟩ = some (.int .i64 x1) ∧ w1.cell? ⟨w.heap.size, 2, none⟩ = some (.int .i64 x2) ∧ w1.cell? ⟨q, 4, none⟩ = some (.int .i64 ck) from ⟨B1.cell 0, B1.cell 1, B1.cell 2, K1.cell 4⟩); have K1s := push_set (gg := gg) (n := n) (cap := cap) K1; have HS3 := Lib.hid (show (w1.setCell ⟨q, 1, none⟩ (.slice (some ⟨gg, 0, none⟩) (n + 1) cap)).cell? ⟨w.heap.size, 0, none⟩ = some (.int .i64 x0) ∧ (w1.setCell ⟨q, 1, none⟩ (.slice (some ⟨gg, 0, none⟩) (n + 1) cap)).cell? ⟨w.heap.size, 1, none⟩ = some (.int .i64 x1) ∧ (w1.setCell ⟨q, 1, none⟩ (.slice (some ⟨gg, 0, none⟩) (n + 1) cap)).cell? ⟨w.heap.size, 2, none⟩ = some (.int .i64 x2) ∧ (w1.setCell ⟨q, 1, none⟩ (.slice (some ⟨gg, 0, none⟩) (n + 1) cap)).cell? ⟨q, 4, none⟩ = some (.int .i64 ck) from ⟨(B1.far (p := ⟨q, 1, none⟩) (fun e => HQ1.out e.symm) _).cell 0, (B1.far (p := ⟨q, 1, none⟩) (fun e => HQ1.out e.symm) _).cell 1, (B1.far (p := ⟨q, 1, none⟩) (fun e => HQ1.out e.symm) _).cell 2, K1s.cell 4⟩); simp at p1))
    all_goals
      go_wp2_with fail
      go_meet
      have hgq : gg ≠ q := by
        rcases hat with h | h
        · exact fun e => NE.out (e ▸ h)
        · intro e; omega
      refine ⟨gg, cap, K1s, ?_, ?_, ?_, hgq, ?_⟩
      · exact own_touch (F := fun k => k = q) hown1 ((Touch.refl (fun k => k = q) w1).setCell (p := ⟨q, 1, none⟩) (.inl rfl) _) (fun k hk e => hgq (by
          have : gg = k := by simpa [Value.ownBlock] using hk
          omega))
      · exact (HMA.out.keep (hgrow.block b HMA.out.lt NB'.out)).setCell hbq _
      · rcases hat with h | h
        · exact .inl h
        · right; omega
      · exact (HTA.out.grown hgrow (fun k hk => .inl (H3.out k (by rw [HN.out]; exact hk)))).setCell (.inl H1.out) _
  case rest =>
  obtain ⟨gg, cap, K2, O2, M2, hat, hgq, T2⟩ := hcut
  rename World => w2
  have hfn : f (nx : Int) = none := by
    cases hf : f (nx : Int) with
    | none => rfl
    | some i =>
      obtain ⟨e, he, hek⟩ := HA.out.fro _ _ hf
      have := HOK.out.hb e (HP.out.mem_iff.1 (List.mem_of_getElem? he))
      omega
  obtain ⟨w3, hr3, M3, X3⟩ := M2.put (wfN (n := nx) (by omega)) (v := n) (by omega) (by unfold maxLen; omega)
  rw [hfn] at M3
  have T3 := turned_touch X3
  have K3 := K2.touch T3 (fun (e : q = b) => hbq e.symm)
  have hbg : b ≠ gg := fun e => M2.ne_own O2 (by rw [e]; rfl)
  have O3 := own_touch O2 T3 (fun k hk e => by
    have : gg = k := by simpa [Value.ownBlock] using hk
    exact hbg (by omega))
  have T3' : Touch F w w3 := T2.trans T3 (fun k hk => .inl (hk ▸ H2.out))
  have j2 := K2.cell 2
  have s3 := K3.cell 3
  have s4 := K3.cell 4
  have zz3 := K3.frozen 3
  have zz4 := K3.frozen 4
  simp at j2 s3 s4
  have HM3 := Lib.hid M3
  have HK3 := Lib.hid K3
  have HO3 := Lib.hid O3
  have HTT := Lib.hid T3'
  have HAT := Lib.hid hat
  have HHT := Lib.hid hgq
  have HBG := Lib.hid hbg
  have HBQ := Lib.hid hbq
  clear K2 M2 O2 T2 hfn X3 M3 T3 K3 O3 T3' hat hgq hbg hbq hbW
  go_upto_region 4 with fail
  have u1 : IntKind.i64.wrap ((nx : Int) + 1) = (nx : Int) + 1 := IntWalk.i64_in _ (by omega)
  have u2 : IntKind.i64.wrap ((ck : Int) + 1) = (ck : Int) + 1 := IntWalk.i64_in _ (by omega)
  go_cut [] (fun wx => Blk wx q 75 #[.func (.func 30) #[] #[], .slice (some ⟨gg, 0, none⟩) (n + 1) cap, .map (some b), .int .i64 ((nx : Int) + 1), .int .i64 ((ck : Int) + 1)] ∧ Touch (fun k => k = q) w3 wx)
  case first =>
    simp only [ldI_eq]
    go_region_held3 (fun _ => True) (trivial) (fail)
    all_goals
      go_wp2_with fail
      go_meet
      exact set_next HK3.out
  case rest =>
    obtain ⟨K5, T5⟩ := hcut
    rename World => w5
    have hql5 := T5.size
    have M5 : MapI w5 b (nx + 1) (fput f nx n) := HM3.out.keep (T5.block b HM3.out.lt HBQ.out)
    have O5 := own_touch HO3.out T5 (fun k hk e => by
      have : gg = k := by simpa [Value.ownBlock] using hk
      exact HHT.out (by omega))
    have e1 : ents l ++ Ent.cells ⟨x0, x1, x2, nx, ck⟩ = ents (l ++ [(⟨x0, x1, x2, nx, ck⟩ : Ent)]) := by rw [ents_append]; simp [ents]
    have e2 : n + 1 = (l ++ [(⟨x0, x1, x2, nx, ck⟩ : Ent)]).length := by rw [List.length_append, HN.out]; rfl
    rw [e1, e2] at O5
    rw [e2] at K5
    have hnl : n < (l ++ [(⟨x0, x1, x2, nx, ck⟩ : Ent)]).length := by omega
    have hAp : Agree (l ++ [(⟨x0, x1, x2, nx, ck⟩ : Ent)]) (fput f nx n) := push_agree (e := (⟨x0, x1, x2, nx, ck⟩ : Ent)) HA.out HN.out (fun e he => by have := HOK.out.hb e (HP.out.mem_iff.1 he); omega) rfl
    have hpu := HH.out.push (⟨x0, x1, x2, nx, ck⟩ : Ent)
    rw [HN.out] at hpu
    have HPU := Lib.hid hpu
    have HOKN := Lib.hid (HOK.out.push hnx hck (e := (⟨x0, x1, x2, nx, ck⟩ : Ent)) rfl rfl)
    have hbound : HB (l ++ [(⟨x0, x1, x2, nx, ck⟩ : Ent)]) := by
      intro e he
      rcases List.mem_append.1 he with h | h
      · have := HOK.out.hb e (HP.out.mem_iff.1 h); omega
      · simp at h; subst h; show nx ≤ _; omega
    have HHB := Lib.hid hbound
    have HAp := Lib.hid hAp
    have HQ5 := Lib.hid (show QR w5 q gg cap b (l ++ [(⟨x0, x1, x2, nx, ck⟩ : Ent)]) (nx + 1) (ck + 1) (fput f nx n) from ⟨K5, O5, M5⟩)
    clear K5 O5 M5 e1 e2 hAp hpu hbound s3 s4 zz3 zz4
    go_wp2_with fail
    refine (up_any w5 q gg cap b (nx + 1) (ck + 1) (l ++ [(⟨x0, x1, x2, nx, ck⟩ : Ent)]) _ n hnl HQ5.out HAp.out (by omega) (by rw [List.length_append, HN.out]; show n + 1 ≤ _; omega) HHB.out HPU.out.1).mono ?_
    rintro e w6 ⟨v, l', f', i', rfl, HQ6, HA6, HP6, _, HD6, HK6, T6⟩
    go_wp2_with fail
    go_ret
    refine ⟨rfl, fun k => F k ∨ k = gg, ⟨l', f', ⟨some ⟨gg, 0, none⟩, cap, b, HQ6.1, HQ6.2.1, HQ6.2.2, .inl H1.out, .inl H2.out, ?_⟩, HA6, HP6.trans (HP.out.append_right _), HD6.heap (HK6 HPU.out.2), HOKN.out⟩, ?_, ?_⟩
    · intro k hk
      right
      have : gg = k := by simpa [Value.ownBlock] using hk
      exact this.symm
    · refine (HTT.out.trans T5 (fun k hk => .inl (hk ▸ H1.out))).trans T6 (fun k hk => ?_)
      rcases hk with hk | hk
      · rcases HAT.out with h | h
        · exact .inl (H3.out k (by rw [HN.out, hk]; exact h))
        · exact .inr (by omega)
      · exact .inl (hk ▸ H2.out)
    · intro k hk
      rcases hk with hk | hk
      · exact .inl hk
      · rcases HAT.out with h | h
        · exact .inl (H3.out k (by rw [HN.out, hk]; exact h))
        · exact .inr (by omega)
end Go.Proofs.Ytkeiakmfnammbaa
