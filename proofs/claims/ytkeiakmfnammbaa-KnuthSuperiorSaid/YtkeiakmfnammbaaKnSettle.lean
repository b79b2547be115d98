/- The solver's settle. -/
import Derived.Test.YtkeiakmfnammbaaKnOffer
namespace Go.Proofs.Ytkeiakmfnammbaa
open Go.RowKit

/-- One tail of hyperedge k settled: the open tails, the queue, the next handle. -/
def dec (es : List Ed) (V : List Vl) (S : List Bool) (st : List Int × List Ent × Nat) (k : Nat) : List Int × List Ent × Nat :=
  match es[k]? with
  | some e => if st.1[k]?.getD 0 - 1 = 0 then (st.1.set k (st.1[k]?.getD 0 - 1), offL V S e st.2.1 st.2.2, offN V S e st.2.2) else (st.1.set k (st.1[k]?.getD 0 - 1), st.2.1, st.2.2)
  | none => st
theorem foldl_take_succ {α β : Type} {f : β → α → β} {b : β} {l : List α} {i : Nat} {x : α} (h : l[i]? = some x) : (l.take (i + 1)).foldl f b = f ((l.take i).foldl f b) x := by
  rw [List.take_add_one, h]
  simp
theorem dec_len {es : List Ed} {V : List Vl} {S : List Bool} {st : List Int × List Ent × Nat} {k : Nat} : (dec es V S st k).1.length = st.1.length := by
  unfold dec
  split
  · split <;> simp
  · rfl
theorem dec_nx {es : List Ed} {V : List Vl} {S : List Bool} {st : List Int × List Ent × Nat} {k : Nat} : (dec es V S st k).2.2 ≤ st.2.2 + 1 := by
  unfold dec
  split
  · split
    · simp only [offN]; split <;> simp
    · simp
  · simp
theorem dec_bd {es : List Ed} {V : List Vl} {S : List Bool} {st : List Int × List Ent × Nat} {k : Nat} {i : Int} (h : ∀ o ∈ st.1, -i ≤ o ∧ o ≤ 1000) (h0 : 0 ≤ i) : ∀ o ∈ (dec es V S st k).1, -(i + 1) ≤ o ∧ o ≤ 1000 := by
  have hg : -i ≤ st.1[k]?.getD 0 ∧ st.1[k]?.getD 0 ≤ 1000 := by
    cases hk : st.1[k]? with
    | none => simp; omega
    | some o => exact h o (List.mem_of_getElem? hk)
  have hs : ∀ o ∈ st.1.set k (st.1[k]?.getD 0 - 1), -(i + 1) ≤ o ∧ o ≤ 1000 := fun o ho => by
    rcases List.mem_or_eq_of_mem_set ho with h1 | h1
    · have := h o h1; omega
    · omega
  unfold dec
  split
  · split
    · exact hs
    · exact hs
  · intro o ho
    have := h o ho
    omega
theorem fold_bd {es : List Ed} {V : List Vl} {S : List Bool} : ∀ {l : List Nat} {st : List Int × List Ent × Nat} {i : Int}, (∀ o ∈ st.1, -i ≤ o ∧ o ≤ 1000) → 0 ≤ i →
    (∀ o ∈ (l.foldl (dec es V S) st).1, -(i + l.length) ≤ o ∧ o ≤ 1000) ∧ (l.foldl (dec es V S) st).2.2 ≤ st.2.2 + l.length ∧ (l.foldl (dec es V S) st).1.length = st.1.length
  | [], st, i, h, h0 => by simpa using h
  | k :: l, st, i, h, h0 => by
    obtain ⟨h1, h2, h3⟩ := fold_bd (l := l) (dec_bd (es := es) (V := V) (S := S) (k := k) h h0) (by omega)
    simp only [List.foldl_cons, List.length_cons]
    refine ⟨fun o ho => ?_, ?_, ?_⟩
    · have := h1 o ho; omega
    · have := dec_nx (es := es) (V := V) (S := S) (st := st) (k := k); omega
    · rw [h3, dec_len]
theorem step_touch {base : Nat} {w w' : World} {a : SA} (h : Touch (fun k => k = a.va ∨ k = a.sa ∨ k = a.oa) w w') (hlo : base ≤ a.va ∧ base ≤ a.sa ∧ base ≤ a.oa) : base ≤ w.heap.size → Below base w w' :=
  fun hb => h.toBelow (fun k hk => by rcases hk with e | e | e <;> omega) hb
/-- What the solver's functions turn: the queue, the rows. -/
structure Stp (a : SA) (w : World) (F : Nat → Prop) (w' : World) (G : Nat → Prop) : Prop where
  touch : Touch (fun k => F k ∨ k = a.va ∨ k = a.sa ∨ k = a.oa) w w'
  new : ∀ k, G k → F k ∨ w.heap.size ≤ k
  below : a.base ≤ w.heap.size → Below a.base w w'
theorem Step.stp {a : SA} {w w' : World} {F G : Nat → Prop} (h : Step a.base w F w' G) : Stp a w F w' G := ⟨h.touch.mono (fun _ hk => .inl hk), h.new, h.below⟩
theorem Stp.trans {a : SA} {w w1 w2 : World} {F G H : Nat → Prop} (h : Stp a w F w1 G) (h' : Stp a w1 G w2 H) : Stp a w F w2 H :=
  ⟨h.touch.trans h'.touch (fun k hk => by
    rcases hk with h1 | h1
    · rcases h.new k h1 with h2 | h2
      · exact .inl (.inl h2)
      · exact .inr h2
    · exact .inl (.inr h1)), fun k hk => by
    rcases h'.new k hk with h1 | h1
    · exact h.new k h1
    · exact .inr (Nat.le_trans h.touch.size h1), fun hb => (h.below hb).trans (h'.below (Nat.le_trans hb h.touch.size))⟩
theorem Stp.of_touch {a : SA} {w w' : World} {F : Nat → Prop} (h : Touch (fun k => k = a.va ∨ k = a.sa ∨ k = a.oa) w w') (hlo : a.base ≤ a.va ∧ a.base ≤ a.sa ∧ a.base ≤ a.oa) : Stp a w F w' F :=
  ⟨h.mono (fun _ hk => .inr hk), fun _ hk => .inl hk, step_touch h hlo⟩
theorem Stp.refl (a : SA) (w : World) (F : Nat → Prop) : Stp a w F w F := (Step.of_below (Below.refl _ _)).stp

/-- What the first statement reads. -/
abbrev F5 (w : World) (sb sa va N b j : Nat) (v : Vl) : Prop := w.cell? ⟨sb, 3, none⟩ = some (.slice (some ⟨sa, 0, none⟩) N N) ∧ w.cell? ⟨sb, 2, none⟩ = some (.slice (some ⟨va, 0, none⟩) N N) ∧ w.cell? ⟨b, 0, none⟩ = some (.int .i64 (j : Nat)) ∧ w.cell? ⟨b, 1, none⟩ = some (.int .i64 v.c) ∧ w.cell? ⟨b, 2, none⟩ = some (.int .i64 v.s)
theorem F5.far {w : World} {sb sa va N b j : Nat} {v : Vl} (h : F5 w sb sa va N b j v) {g o : Nat} (h1 : g ≠ sb) (h2 : g ≠ b) (x : Value) : F5 (w.setCell ⟨g, o, none⟩ x) sb sa va N b j v :=
  ⟨(World.cell?_setCell_far _ _ _ _ h1).trans h.1, (World.cell?_setCell_far _ _ _ _ h1).trans h.2.1, (World.cell?_setCell_far _ _ _ _ h2).trans h.2.2.1, (World.cell?_setCell_far _ _ _ _ h2).trans h.2.2.2.1, (World.cell?_setCell_far _ _ _ _ h2).trans h.2.2.2.2⟩
theorem F5.drew {w : World} {sb sa va N b j : Nat} {v : Vl} (h : F5 w sb sa va N b j v) : F5 w.drew sb sa va N b j v := h

set_option maxRecDepth 100000 in
set_option maxHeartbeats 2000000 in
theorem settle_any (w : World) (a : SA) (F : Nat → Prop) (V : List Vl) (S : List Bool) (O : List Int) (L : List Ent) (nx j : Nat) (v : Vl) (u : Ur) (h : SM w a F V S O L nx) (hj : j < a.N) (hu : a.us[j]? = some u) (hul : u.l.length ≤ 1000) (huk : ∀ k ∈ u.l, k < a.es.length)
    (hok : ∀ e ∈ a.es, e.Ok a.N) (ho : ∀ v ∈ V, Ordy v) (hv : Ordy v) (hO : ∀ o ∈ O, 0 ≤ o ∧ o ≤ 1000) (hnx : nx + u.l.length < 100000000) :
    Calls Try.prog 33 #[.pointer (some ⟨a.sb, 0, none⟩), .agg #[.int .i64 j, .int .i64 v.c, .int .i64 v.s]] w fun x w' => ∃ v', x = .returned v' ∧ ∃ G,
      SM w' a G (V.set j v) (S.set j true) (u.l.foldl (dec a.es (V.set j v) (S.set j true)) (O, L, nx)).1 (u.l.foldl (dec a.es (V.set j v) (S.set j true)) (O, L, nx)).2.1 (u.l.foldl (dec a.es (V.set j v) (S.set j true)) (O, L, nx)).2.2 ∧ Stp a w F w' G := by
  have HSM := Lib.hid h
  have HOV := Lib.hid ho
  have HOK := Lib.hid hok
  have HOO := Lib.hid hO
  have HUK := Lib.hid huk
  obtain ⟨V', hV'⟩ : ∃ V', V.set j v = V' := ⟨_, rfl⟩
  obtain ⟨S', hS'⟩ : ∃ S', S.set j true = S' := ⟨_, rfl⟩
  have HOV' : Hid (∀ v ∈ V', Ordy v) := by
    rw [← hV']
    intro x hx
    rcases List.mem_or_eq_of_mem_set hx with h1 | h1
    · exact ho x h1
    · rw [h1]; exact hv
  rw [hV', hS']
  have HVS := Lib.hid (And.intro hV' hS')
  have hlo := h.lo
  have HLO := Lib.hid (show a.base ≤ a.va ∧ a.base ≤ a.sa ∧ a.base ≤ a.oa from ⟨hlo.2.1, hlo.2.2.1, hlo.2.2.2.1⟩)
  have nsv : a.sa ≠ a.va := Blk.ne_ h.kB.1 h.kV.1 (by decide)
  have nbv : a.sb ≠ a.va := Blk.ne_ h.kS.1 h.kV.1 (by decide)
  have nbs : a.sb ≠ a.sa := Blk.ne_ h.kS.1 h.kB.1 (by decide)
  have lva := h.kV.1.lt
  have lsa := h.kB.1.lt
  clear ho hok hO huk h hV' hS' hlo
  go_enter Try.func33, Try.ntmps33
  go_upto_region 1 with fail
  obtain ⟨w1, hw1⟩ : ∃ w1, w.alloc (.cells #[.int .i64 j, .int .i64 v.c, .int .i64 v.s] 64) = w1 := ⟨_, rfl⟩
  rw [hw1]
  have HSM1 : Hid (SM w1 a F V S O L nx) := by rw [← hw1]; exact HSM.out.alloc _
  have HKC : Hid (PB w1 F w.heap.size 64 #[.int .i64 j, .int .i64 v.c, .int .i64 v.s]) := by rw [← hw1]; exact HSM.out.hQ.new _ _
  have hb1 : Below w.heap.size w w1 := by rw [← hw1]; exact (Below.refl _ _).alloc (Nat.le_refl _) _
  clear hw1
  obtain ⟨bx, hbx⟩ : ∃ bx, w.heap.size = bx := ⟨_, rfl⟩
  have nxv : a.va ≠ bx := by omega
  have nxs : a.sa ≠ bx := by omega
  have f5 : F5 w1 a.sb a.sa a.va a.N bx j v := by
    rw [← hbx]
    exact ⟨HSM1.out.kS.1.cell 3, HSM1.out.kS.1.cell 2, HKC.out.1.cell 0, HKC.out.1.cell 1, HKC.out.1.cell 2⟩
  obtain ⟨sj, hsj⟩ : ∃ sj, S[j]? = some sj := ⟨_, List.getElem?_eq_getElem (by rw [HSM1.out.lS]; exact hj)⟩
  obtain ⟨vj, hvj⟩ : ∃ vj, V[j]? = some vj := ⟨_, List.getElem?_eq_getElem (by rw [HSM1.out.lV]; exact hj)⟩
  have b0 := HSM1.out.bool_at hsj
  have v0 := (HSM1.out.kV.1.vl_at hvj).1
  have v1 := (HSM1.out.kV.1.vl_at hvj).2
  have zb := HSM1.out.kB.1.frozen j
  have zv0 := HSM1.out.kV.1.frozen (j * 2)
  have zv1 := HSM1.out.kV.1.frozen (j * 2 + 1)
  have HFA := Lib.hid f5.drew
  have HFB : Hid (F5 (World.drew (w1.setCell ⟨a.sa, j, none⟩ (.bool true))) a.sb a.sa a.va a.N bx j v) := (f5.far (fun e => nbs e.symm) nxs _).drew
  have HFC : Hid (F5 (World.drew ((w1.setCell ⟨a.va, j * 2, none⟩ (.int .i64 v.c)).setCell ⟨a.va, j * 2 + 1, none⟩ (.int .i64 v.s))) a.sb a.sa a.va a.N bx j v) := ((f5.far (fun e => nbv e.symm) nxv _).far (fun e => nbv e.symm) nxv _).drew
  have HFD : Hid (F5 (World.drew (((w1.setCell ⟨a.sa, j, none⟩ (.bool true)).setCell ⟨a.va, j * 2, none⟩ (.int .i64 v.c)).setCell ⟨a.va, j * 2 + 1, none⟩ (.int .i64 v.s))) a.sb a.sa a.va a.N bx j v) := (((f5.far (fun e => nbs e.symm) nxs _).far (fun e => nbv e.symm) nxv _).far (fun e => nbv e.symm) nxv _).drew
  have HFE : Hid (F5 (World.drew (((w1.setCell ⟨a.va, j * 2, none⟩ (.int .i64 v.c)).setCell ⟨a.va, j * 2 + 1, none⟩ (.int .i64 v.s)).setCell ⟨a.sa, j, none⟩ (.bool true))) a.sb a.sa a.va a.N bx j v) := (((f5.far (fun e => nbv e.symm) nxv _).far (fun e => nbv e.symm) nxv _).far (fun e => nbs e.symm) nxs _).drew
  have HE1 : Hid (SM (World.drew (((w1.setCell ⟨a.sa, j, none⟩ (.bool true)).setCell ⟨a.va, j * 2, none⟩ (.int .i64 v.c)).setCell ⟨a.va, j * 2 + 1, none⟩ (.int .i64 v.s))) a F V' S' O L nx ∧ Stp a w (F) (World.drew (((w1.setCell ⟨a.sa, j, none⟩ (.bool true)).setCell ⟨a.va, j * 2, none⟩ (.int .i64 v.c)).setCell ⟨a.va, j * 2 + 1, none⟩ (.int .i64 v.s))) F) := by
    rw [← HVS.out.1, ← HVS.out.2]
    refine ⟨((HSM1.out.setB j true).setV hj v).drewN 1, (Step.of_below hb1).stp.trans (Stp.of_touch ?_ HLO.out)⟩
    exact ((((Touch.refl _ w1).setCell (p := ⟨a.sa, j, none⟩) (.inl (.inr (.inl rfl))) _).setCell (p := ⟨a.va, j * 2, none⟩) (.inl (.inl rfl)) _).setCell (p := ⟨a.va, j * 2 + 1, none⟩) (.inl (.inl rfl)) _).drew1
  have HE2 : Hid (SM (World.drew (((w1.setCell ⟨a.va, j * 2, none⟩ (.int .i64 v.c)).setCell ⟨a.va, j * 2 + 1, none⟩ (.int .i64 v.s)).setCell ⟨a.sa, j, none⟩ (.bool true))) a F V' S' O L nx ∧ Stp a w (F) (World.drew (((w1.setCell ⟨a.va, j * 2, none⟩ (.int .i64 v.c)).setCell ⟨a.va, j * 2 + 1, none⟩ (.int .i64 v.s)).setCell ⟨a.sa, j, none⟩ (.bool true))) F) := by
    rw [← HVS.out.1, ← HVS.out.2]
    refine ⟨((HSM1.out.setV hj v).setB j true).drewN 1, (Step.of_below hb1).stp.trans (Stp.of_touch ?_ HLO.out)⟩
    exact ((((Touch.refl _ w1).setCell (p := ⟨a.va, j * 2, none⟩) (.inl (.inl rfl)) _).setCell (p := ⟨a.va, j * 2 + 1, none⟩) (.inl (.inl rfl)) _).setCell (p := ⟨a.sa, j, none⟩) (.inl (.inr (.inl rfl))) _).drew1
  rw [hbx]
  clear f5
  go_cut [] (fun wx => SM wx a F V' S' O L nx ∧ Stp a w F wx F ∧ F5 wx a.sb a.sa a.va a.N bx j v)
  case first =>
    go_region_held3 (fun w' => w'.cell? ⟨a.sb, 3, none⟩ = some (.slice (some ⟨a.sa, 0, none⟩) a.N a.N) ∧ w'.cell? ⟨a.sb, 2, none⟩ = some (.slice (some ⟨a.va, 0, none⟩) a.N a.N) ∧ w'.cell? ⟨bx, 0, none⟩ = some (.int .i64 (j : Nat)) ∧ w'.cell? ⟨bx, 1, none⟩ = some (.int .i64 v.c) ∧ w'.cell? ⟨bx, 2, none⟩ = some (.int .i64 v.s))
      (first | with_reducible exact HFA.out | with_reducible exact HFB.out | with_reducible exact HFC.out | with_reducible exact HFD.out | with_reducible exact HFE.out) (fail)
    all_goals
      go_wp2_with fail
      go_meet
      first | exact ⟨HE1.out.1, HE1.out.2, HFD.out⟩ | exact ⟨HE2.out.1, HE2.out.2, HFE.out⟩
  case rest =>
    obtain ⟨hsm, hstp, f5⟩ := hcut
    rename World => w2
    clear HE1 HE2 HFA HFB HFC HFD HFE HSM1 HKC b0 v0 v1 zb zv0 zv1 hsj hvj hb1
    have HSM2 := Lib.hid hsm
    have HST2 := Lib.hid hstp
    have x0 := f5.2.2.1
    have U5 : w2.cell? ⟨a.sb, 5, none⟩ = some (.slice (some ⟨a.ua, 0, none⟩) a.N a.N) := hsm.kS.1.cell 5
    have U0 := hsm.uses_at hu
    obtain ⟨uA, uc, ul⟩ := u
    simp only at U0 hul hnx HUK ⊢
    obtain ⟨n, hn⟩ : ∃ n, ul.length = n := ⟨_, rfl⟩
    rw [hn] at U0
    clear hsm hstp f5 lva lsa hbx nxv nxs nsv nbv nbs
    go_upto_region 2 with fail
    go_quiet (fail)
    go_wp2_with fail
    obtain ⟨w3, hw3⟩ : ∃ w3, w2.drewN nq = w3 := ⟨_, rfl⟩
    rw [hw3]
    have HSM3 : Hid (SM w3 a F V' S' O L nx) := by rw [← hw3]; exact HSM2.out.drewN _
    have HST3 : Hid (Stp a w F w3 F) := by rw [← hw3]; exact HST2.out.trans (Step.of_below (below_drewN (Below.refl _ _) _)).stp
    clear hw3 HSM2 HST2 U5 U0 x0
    clear w2
    go_loopw [31] (fun x wr => ∃ i : Nat, i ≤ n ∧ x = .int .i64 i ∧ ∃ G, Hid (SM wr a G V' S' ((ul.take i).foldl (dec a.es V' S') (O, L, nx)).1 ((ul.take i).foldl (dec a.es V' S') (O, L, nx)).2.1 ((ul.take i).foldl (dec a.es V' S') (O, L, nx)).2.2) ∧ Hid (Stp a w F wr G)) (fun x _ => n - (intOf x).toNat)
    case atStart => exact ⟨0, Nat.zero_le _, rfl, F, HSM3, HST3⟩
    case round =>
      obtain ⟨i, hi, rfl, G, HSMR, HSTR⟩ := hrel
      clear HSM3 HST3
      by_cases hlt : i < n
      case neg =>
        have hltD : decide (i < n) = false := by simp [hlt]
        obtain rfl : i = n := by omega
        have hte : ul.take i = ul := by rw [← hn]; exact List.take_length
        rw [hte] at HSMR
        go_wp2_with fail
        go_end0
        exact ⟨⟨_, rfl⟩, G, HSMR.out, HSTR.out⟩
      case pos =>
        have hltD : decide (i < n) = true := by simp [hlt]
        have hki : ul[i]? = some ul[i] := List.getElem?_eq_getElem (by omega)
        obtain ⟨k, hk⟩ : ∃ k, ul[i] = k := ⟨_, rfl⟩
        rw [hk] at hki
        clear hk
        have hkl := HUK.out k (List.mem_of_getElem? hki)
        obtain ⟨b, off, hA, _, _, _, _, r0⟩ := HSMR.out.rU _ (List.mem_of_getElem? hu) i k hki
        simp only at hA
        obtain ⟨e, he⟩ : ∃ e, a.es[k]? = some e := ⟨_, List.getElem?_eq_getElem hkl⟩
        have hst := foldl_take_succ (f := dec a.es V' S') (b := (O, L, nx)) hki
        obtain ⟨st, hste⟩ : ∃ st, (ul.take i).foldl (dec a.es V' S') (O, L, nx) = st := ⟨_, rfl⟩
        have hbd := fold_bd (es := a.es) (V := V') (S := S') (l := ul.take i) (st := (O, L, nx)) (i := 0) (fun o ho => by have := HOO.out o ho; omega) (Int.le_refl _)
        rw [hste] at hst HSMR hbd
        have hti : (ul.take i).length = i := by rw [List.length_take]; omega
        rw [hti] at hbd
        obtain ⟨Oi, Li, ni⟩ := st
        simp only at HSMR hbd
        obtain ⟨ok, hok⟩ : ∃ ok, Oi[k]? = some ok := ⟨_, List.getElem?_eq_getElem (by rw [HSMR.out.lO]; exact hkl)⟩
        have hokb := hbd.1 ok (List.mem_of_getElem? hok)
        have hnib := hbd.2.1
        have hdec : dec a.es V' S' (Oi, Li, ni) k = if ok - 1 = 0 then (Oi.set k (ok - 1), offL V' S' e Li ni, offN V' S' e ni) else (Oi.set k (ok - 1), Li, ni) := by simp only [dec, he, hok, Option.getD_some]
        rw [hdec] at hst
        have o4 : wr.cell? ⟨a.sb, 4, none⟩ = some (.slice (some ⟨a.oa, 0, none⟩) a.es.length a.es.length) := HSMR.out.kS.1.cell 4
        have ok0 := HSMR.out.open_at hok
        have okz := HSMR.out.kO.1.frozen k
        have nso : ¬ a.sb = a.oa := Blk.ne_ HSMR.out.kS.1 HSMR.out.kO.1 (by decide)
        have hw1 : IntKind.i64.wrap (ok - 1) = ok - 1 := IntWalk.i64_in _ (by omega)
        subst hA
        have HSM4 : Hid (SM (wr.setCell ⟨a.oa, k, none⟩ (.int .i64 (ok - 1))) a G V' S' (Oi.set k (ok - 1)) Li ni) := HSMR.out.setO k (ok - 1)
        have HST4 : Hid (Stp a w F (wr.setCell ⟨a.oa, k, none⟩ (.int .i64 (ok - 1))) G) := HSTR.out.trans (Stp.of_touch ((Touch.refl _ wr).setCell (p := ⟨a.oa, k, none⟩) (.inl (.inr (.inr rfl))) _) HLO.out)
        have HOKe := Lib.hid (HOK.out e (List.mem_of_getElem? he))
        by_cases hz : ok - 1 = 0
        case neg =>
          have hzD : (ok - 1 == 0) = false := by simpa using hz
          rw [if_neg hz] at hst
          have HH := Lib.hid hst
          clear hst hdec hste hbd
          go_wp2_with fail
          go_roundw
          case rel =>
            refine ⟨i + 1, by omega, by go_num, G, ?_, HST4⟩
            rw [HH.out]
            exact HSM4
          case measure => simp [intOf]; omega
        case pos =>
          have hzD : (ok - 1 == 0) = true := by simpa using hz
          rw [if_pos hz, hz] at hst
          rw [hz] at HSM4 HST4
          have HH := Lib.hid hst
          clear hst hdec hste hbd
          go_wp2_with fail
          refine (offer_any _ a G V' S' _ Li ni k e HSM4.out he HOKe.out HOV'.out (by omega)).mono ?_
          rintro x w5 ⟨v', rfl, G5, hsm5, hst5⟩
          have HSM5 := Lib.hid hsm5
          have HST5 := Lib.hid (HST4.out.trans hst5.stp)
          clear hsm5 hst5
          go_wp2_with fail
          go_roundw
          case rel =>
            refine ⟨i + 1, by omega, by go_num, G5, ?_, HST5⟩
            rw [HH.out]
            exact HSM5
          case measure => simp [intOf]; omega
end Go.Proofs.Ytkeiakmfnammbaa
