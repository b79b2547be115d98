/- The evaluator: maps, makers, ranges. -/
import Derived.Test.YtibdcnmaodmghaaGreatDoorEvB
import Derived.Laws.Append
import Derived.Laws.MakeOwn
import Derived.Great.BuildSlice
import Derived.Laws.BytesString
section
namespace Go.Ev
open Go Go.RowKit
section
variable {P : Program} {r r' : Rho} {A : Tr AV} {a : Act} {w : World} {B : Tr AO} {n : Nat}
theorem orec {α : Type} {x : Option α} {f : α → Res} (h : (@Option.rec α (fun _ => Res) .bad f x) ≠ .bad) : ∃ u, x = some u ∧ (@Option.rec α (fun _ => Res) .bad f x) = f u := by
  cases x with
  | none => exact absurd rfl h
  | some u => exact ⟨u, rfl, rfl⟩
theorem brec {c : Bool} {x : Res} (h : (@Bool.rec (fun _ => Res) .bad x c) ≠ .bad) : c = true ∧ (@Bool.rec (fun _ => Res) .bad x c) = x := by
  cases c with
  | false => exact absurd rfl h
  | true => exact ⟨rfl, rfl⟩
theorem crec {c : Bool} {x : Res} (h : (bif c then x else .bad) ≠ .bad) : c = true ∧ (bif c then x else .bad) = x := by
  cases c with
  | false => exact absurd rfl h
  | true => exact ⟨rfl, rfl⟩
theorem wp_v {o : Oper} {s : Sem Value} {K : Act → World → Prop} {Q : Exit → Act → World → Prop} (ho : execOp a.eval o = (do let y ← s; pure (Next.value y))) {x : Value} {w' : World} (hs : s.run P w = .ok x w') (hK : K (a.put o.dst x) w') : o.wp P a w K Q := by
  unfold Oper.wp
  rw [ho, run_v hs]
  exact hK
theorem wp_u {o : Oper} {s : Sem Unit} {K : Act → World → Prop} {Q : Exit → Act → World → Prop} (ho : execOp a.eval o = (do s; pure Next.skip)) {w' : World} (hs : s.run P w = .ok () w') (hK : K (a.put o.dst undef) w') : o.wp P a w K Q := by
  unfold Oper.wp
  rw [ho]
  simp only [Sem.run_bind, hs, Result.andThen_ok]
  exact hK
theorem goes_pure {E : Fns} {o : Oper} {d : Option Nat} {p : PO} {xs : Xs} (hc : cOp P o = some (.pure d p xs)) : Goes1 P E o (.pure d p xs) := by
  intro k A B n D h
  have e : (I.pure d p xs).run E k A B n D = stPure d p xs k A B n D := rfl
  rw [e] at h ⊢
  unfold stPure at h ⊢
  obtain ⟨l, hx, e1⟩ := orec h
  rw [e1] at h ⊢
  obtain ⟨v, hp, e2⟩ := orec h
  rw [e2]
  have hd : d = o.dst := by
    rcases cOp_inv hc with hd | ⟨f1, f2⟩
    · exact hd
    · subst f1; subst f2
      have e : (Xs.cons (X.c AV.pn) Xs.nil).ev A = some (.cons .pn .nil) := rfl
      rw [e] at hx; cases hx; cases hp
  refine ⟨v, by rw [← hd], fun r w a hR ha => ?_⟩
  obtain ⟨h1, h2, h3⟩ := pure_run (w := w) hR.glob hc ha hx hp
  refine ⟨h2, fun K Q hK => ?_⟩
  unfold Oper.wp
  rw [h1]
  exact hK
/-- A new row of known cells. -/
theorem rel_row {c : AV} {m K tp : Nat} {kn : Bool} {cs : Array Value} {e : TypeId} (hR : Rel P r B.get w) (hn : r n = none) (hc : ok r c) (hf : flat c) (hcs : ∀ i v, AV.nth i c = some v → cs[i]? = some (conc r v)) (hsz : cs.size = (bif kn then m else K * m)) (htp : kn = false → c.len ≤ tp) :
    Rel P (upd r n (w.heap.size, K)) (B.set n (.row m kn tp (setCells c .nil 0))).get (w.alloc (.cells cs e)) ∧ Stp r B.get n w (upd r n (w.heap.size, K)) (B.set n (.row m kn tp (setCells c .nil 0))).get (n + 1) (w.alloc (.cells cs e)) := by
  refine rel_new hR hn ?_ ?_
  · intro m' kn' tp' c' ec
    cases ec
    have he := upd_ext (p := (w.heap.size, K)) hn
    refine ⟨cs, e, (0, 0), Go.heap_alloc_new w _, fun i _ h => by omega, hsz, fun i v hv => ?_⟩
    rcases setCells_get hv with ⟨k, hk, rfl, h2⟩ | ⟨h2, _⟩
    · rw [Nat.zero_add]
      have h3 := ok_nth h2 hc
      exact ⟨ok_ext he h3, flat_nth hf h2, by rw [conc_ext he h3]; exact hcs k v h2, fun e => by have := htp e; omega⟩
    · cases h2
  · intro es ec; cases ec
theorem goes_box {E : Fns} {o : Oper} {d : Option Nat} {x : X} (hc : cOp P o = some (.box d x)) : Goes P E o (.box d x) := by
  intro k A B n D h
  have e : (I.box d x).run E k A B n D = stBox d x k A B n D := rfl
  rw [e] at h ⊢
  unfold stBox at h ⊢
  obtain ⟨v, hx, e1⟩ := orec h
  rw [e1] at h ⊢
  obtain ⟨h1, e2⟩ := brec h
  rw [e2]
  obtain ⟨rfl, hinv⟩ := cOp_inv hc
  refine ⟨.p n 0, _, _, rfl, Nat.le_succ n, fun r w a hR ha hF K Q hK => ?_⟩
  have hn := hF n (Nat.le_refl n) (Nat.lt_succ_self n)
  have hrun : ∃ e, (∃ s : Sem Value, execOp a.eval o = (do let y ← s; pure (Next.value y)) ∧ s.run P w = .ok (.pointer (some ⟨w.heap.size, 0, none⟩)) (w.alloc (.cells (conc r v).cells e))) ∧ ok r v := by
    rcases hinv with ⟨t, z, ho, hz, rfl⟩ | ⟨t, y, ho, hy⟩
    · have : z = v := by injection hx
      subst this
      obtain ⟨h2, h3, _⟩ := zeroB_run (w := w) hz r
      refine ⟨t, ⟨Instr.alloc t true (.tuple #[]), by simp [execOp, ho], ?_⟩, h3⟩
      simp [Instr.alloc, h2, newVar, newRow]
    · obtain ⟨h2, h3⟩ := cX_eval hR.glob hy hx ha
      refine ⟨t, ⟨Instr.box t (a.eval y), by simp [execOp, ho], ?_⟩, h3⟩
      simp [Instr.box, h2, newVar, newRow]
  obtain ⟨t, ⟨s, hs, hsr⟩, hv⟩ := hrun
  refine wp_v hs hsr ?_
  obtain ⟨h2, h3⟩ := rel_row (K := 0) (m := v.cells.len) (kn := true) (cs := (conc r v).cells) (e := t) hR hn (ok_cells hv) (flat_cells hv h1) (fun i u hu => by
    have := nth_concL (r := r) hu
    rw [concL_cells] at this
    simpa using this) (by rw [len_cells (r := r)]; rfl) (tp := 0) (fun e => by cases e)
  have := hK _ _ h3 h2 (upd_blk).2.2
  rw [conc_p, (upd_blk).1] at this
  exact this
theorem ldAt_run {t : TypeId} {g : Bool} {size : Nat} (hg : isAggB P t = some g) (hs : sizeB P t = some size) {B : Hf} (hR : Rel P r B w) {c : Tr AV} {id off K b m tp : Nat} {kn : Bool} (hb : B id = some (.row m kn tp c)) (hr : r id = some (b, K)) {v : AV}
    (h : (@Bool.rec (fun _ => Option AV) (Tr.get c off) (@Option.rec AV (fun _ => Option AV) none (fun l => some (.ag l)) (getCells c size off)) g) = some v) :
    (loadVar t ⟨b, off, none⟩).run P w = .ok (conc r v) w ∧ ok r v := by
  have hrow := hR.row id m kn _ c b K hb hr
  cases g with
  | true =>
    cases e : getCells c size off with
    | none => rw [e] at h; cases h
    | some l =>
      rw [e] at h; cases h
      obtain ⟨h1, h2, h3⟩ := hrow.load (P := P) e
      refine ⟨?_, h2, h3⟩
      simp [loadVar, isAggB_run hg, sizeB_run hs, h1]
  | false =>
    have h : c.get off = some v := h
    have hcell := hrow.cell h
    have hok : ok r v := by
      obtain ⟨cs, ty, fr, _, _, _, h4⟩ := hrow
      exact (h4 off v h).1
    refine ⟨?_, hok⟩
    simp [loadVar, isAggB_run hg, hcell]
theorem cellsAt_some {B : Tr AO} {id : Nat} {c : Tr AV} (h : cellsAt B id = some c) : ∃ m kn tp, B.get id = some (.row m kn tp c) := by
  unfold cellsAt at h
  cases e : B.get id with
  | none => rw [e] at h; cases h
  | some o =>
    rw [e] at h
    cases o with
    | row m kn tp c' => have : some c' = some c := h; cases this; exact ⟨m, kn, tp, rfl⟩
    | map es => cases h
theorem isSome_blk {id : Nat} (h : (r id).isSome = true) : r id = some (r.blk id, r.cap id) := by
  obtain ⟨p, hp⟩ := Option.isSome_iff_exists.1 h
  simp [Rho.blk, Rho.cap, hp]
theorem ldAt_some {g : Bool} {size : Nat} {B : Tr AO} {u v : AV} (h : ldAt g size B u = some v) : ∃ id off c m kn tp, u = .p id off ∧ B.get id = some (.row m kn tp c) ∧
    (@Bool.rec (fun _ => Option AV) (Tr.get c off) (@Option.rec AV (fun _ => Option AV) none (fun l => some (.ag l)) (getCells c size off)) g) = some v := by
  unfold ldAt at h
  split at h
  · rename_i id off
    cases e : cellsAt B id with
    | none => rw [e] at h; cases h
    | some c =>
      rw [e] at h
      obtain ⟨m, kn, tp, hb⟩ := cellsAt_some e
      exact ⟨id, off, c, m, kn, tp, rfl, hb, h⟩
  · cases h
theorem goes_ld {E : Fns} {o : Oper} {d : Option Nat} {g : Bool} {size : Nat} {x : X} (hc : cOp P o = some (.ld d g size x)) : Goes1 P E o (.ld d g size x) := by
  intro k A B n D h
  have e : (I.ld d g size x).run E k A B n D = stLd d g size x k A B n D := rfl
  rw [e] at h ⊢
  unfold stLd at h ⊢
  obtain ⟨u, hx, e1⟩ := orec h
  rw [e1] at h ⊢
  obtain ⟨v, hl, e2⟩ := orec h
  rw [e2]
  obtain ⟨rfl, t, y, ho, hg, hs, hy⟩ := cOp_inv hc
  refine ⟨v, rfl, fun r w a hR ha => ?_⟩
  obtain ⟨id, off, c, m, kn, tp, rfl, hb, hl'⟩ := ldAt_some hl
  obtain ⟨h1, h2⟩ := cX_eval hR.glob hy hx ha
  obtain ⟨h3, h4⟩ := ldAt_run hg hs hR hb (isSome_blk h2) hl'
  refine ⟨h4, fun K Q hK => ?_⟩
  refine wp_v (s := Instr.loadAt t (a.eval y)) (by simp [execOp, ho]) ?_ hK
  simp [Instr.loadAt, h1, Instr.sureAddr, h3]
/-- A row behind a store of cells that are there. -/
theorem rowSet_run {B : Tr AO} (hR : Rel P r B.get w) {id b K off : Nat} {ob ob' : AO} {cs : AV} (hb : B.get id = some ob) (hr : r id = some (b, K)) (h : rowSet ob off cs = some ob') (hc : ok r cs) (hf : flat cs) :
    (storeCells ⟨b, off, none⟩ (concL r cs)).run P w = .ok () (w.setCells b off (concL r cs)) ∧ Rel P r (B.set id ob').get (w.setCells b off (concL r cs)) ∧ Stp r B.get n w r (B.set id ob').get n (w.setCells b off (concL r cs)) := by
  unfold rowSet at h
  cases ob with
  | map es => cases h
  | row m kn tp c =>
    cases e : getCells c cs.len off with
    | none =>
      have h : (@Option.rec AV (fun _ => Option AO) none (fun _ => some (.row m kn tp (setCells cs c off))) (getCells c cs.len off)) = some ob' := h
      rw [e] at h; cases h
    | some old =>
      have h : (@Option.rec AV (fun _ => Option AO) none (fun _ => some (.row m kn tp (setCells cs c off))) (getCells c cs.len off)) = some ob' := h
      rw [e] at h; cases h
      have hrow := hR.row id m kn _ c b K hb hr
      obtain ⟨hl1, hl2⟩ := getCells_some e
      have hcell : ∀ j, j < (concL r cs).length → (w.cell? ⟨b, off + j, none⟩).isSome = true := fun j hj => by
        rw [len_concL] at hj
        obtain ⟨v, h1, _⟩ := hl2 j hj
        rw [hrow.cell h1]; rfl
      refine ⟨?_, ?_⟩
      · have := run_storeCells_cells (P := P) b off (concL r cs) 0 w (by simpa using hcell) (fun j hj => hrow.frozen (by simpa using hcell j hj)) (flat_one hf)
        simpa using this
      · obtain ⟨g1, g2, g3, g4, g5⟩ := setCells_frame b (concL r cs) off w
        refine rel_turn hR hb hr g1 ⟨g2, keepK_setCells _ _ _ _⟩ g3 g4 g5 ?_ ?_
        · intro m' kn' tp' c' ec
          cases ec
          obtain ⟨vs, ty, fr, h1, h2, h3, h4⟩ := hrow
          rcases Nat.eq_zero_or_pos cs.len with h0 | h0
          · have hnil : concL r cs = [] := List.eq_nil_of_length_eq_zero (by rw [len_concL]; exact h0)
            rw [hnil]
            refine ⟨vs, ty, fr, h1, h2, h3, fun i v hv => ?_⟩
            rcases setCells_get hv with ⟨j, j1, _, _⟩ | ⟨j1, _⟩
            · omega
            · exact h4 i v j1
          have hsz : off + (concL r cs).length ≤ vs.size := by
            rw [len_concL]
            obtain ⟨v, h5, _⟩ := hl2 (cs.len - 1) (by omega)
            have := (h4 _ _ h5).2.2.1
            have := (Array.getElem?_eq_some_iff.1 this).1
            omega
          obtain ⟨vs', k1, k2, k3, k4⟩ := heap_setCells b (concL r cs) off w vs ty fr h1 hsz
          refine ⟨vs', ty, fr, k1, by rw [k2]; exact h2, by rw [k2]; exact h3, fun i v hv => ?_⟩
          rcases setCells_get hv with ⟨j, j1, rfl, j2⟩ | ⟨j1, j2⟩
          · refine ⟨ok_nth j2 hc, flat_nth hf j2, ?_, fun e => ?_⟩
            · rw [k3 j (by rw [len_concL]; exact j1)]
              exact nth_concL j2
            · obtain ⟨u, h5, _⟩ := hl2 j j1
              exact (h4 _ _ h5).2.2.2 e
          · obtain ⟨i1, i2, i3, i4⟩ := h4 i v j1
            refine ⟨i1, i2, ?_, i4⟩
            rw [k4 i (by rw [len_concL]; exact j2)]
            exact i3
        · intro es ec; cases ec
theorem orecO {α β : Type} {x : Option α} {f : α → Option β} {y : β} (h : (@Option.rec α (fun _ => Option β) none f x) = some y) : ∃ u, x = some u ∧ f u = some y := by
  cases x with
  | none => cases h
  | some u => exact ⟨u, rfl, h⟩
theorem goes_st {E : Fns} {o : Oper} {d : Option Nat} {size : Nat} {x y : X} (hc : cOp P o = some (.st d size x y)) : Goes P E o (.st d size x y) := by
  intro k A B n D h
  have e : (I.st d size x y).run E k A B n D = stSt d size x y k A B n D := rfl
  rw [e] at h ⊢
  unfold stSt at h ⊢
  obtain ⟨u, hx, e1⟩ := orec h
  rw [e1] at h ⊢
  obtain ⟨v, hy, e2⟩ := orec h
  rw [e2] at h ⊢
  obtain ⟨B', hs, e3⟩ := orec h
  rw [e3]
  obtain ⟨rfl, t, x', y', ho, hsz, hcx, hcy⟩ := cOp_inv hc
  refine ⟨undefA, B', n, rfl, Nat.le_refl n, fun r w a hR ha hF K Q hK => ?_⟩
  obtain ⟨h1, h2⟩ := cX_eval hR.glob hcx hx ha.1
  obtain ⟨h3, h4⟩ := cX_eval hR.glob hcy hy ha.2
  unfold stAt at hs
  split at hs
  · rename_i id off
    obtain ⟨hb, hs⟩ := brecO hs
    simp only [Bool.and_eq_true, Nat.beq_eq] at hb
    obtain ⟨ob, hob, hs⟩ := orecO hs
    obtain ⟨ob', hob', hs⟩ := orecO hs
    cases hs
    obtain ⟨h5, h6, h7⟩ := rowSet_run (P := P) (n := n) hR hob (isSome_blk h2) hob' (ok_cells h4) (flat_cells h4 hb.1)
    have := hK r _ h7 h6 trivial
    refine wp_u (s := Instr.storeAt t (a.eval x') (a.eval y')) (by simp [execOp, ho]) ?_ this
    have hcs : ¬ (conc r v).cells.size ≠ size := by rw [← len_cells]; simpa using hb.2
    rw [concL_cells] at h5
    simp only [Instr.storeAt, h1, h3, conc_p, Instr.sureAddr, Sem.run_bind, Sem.run_pure, Result.andThen_ok, storeVar, sizeB_run hsz]
    simp only [ne_eq, Decidable.not_not] at hcs
    simp only [hcs, ne_eq, not_true_eq_false, if_false]
    rw [concL_cells]
    exact h5
  · cases hs
theorem goes_mkm {E : Fns} {o : Oper} {d : Option Nat} (hc : cOp P o = some (.mkm d)) : Goes P E o (.mkm d) := by
  intro k A B n D h
  have e : (I.mkm d).run E k A B n D = stMkm d k A B n D := rfl
  rw [e] at h ⊢
  unfold stMkm at h ⊢
  obtain ⟨rfl, t, ho⟩ := cOp_inv hc
  refine ⟨.m n, _, _, rfl, Nat.le_succ n, fun r w a hR ha hF K Q hK => ?_⟩
  have hn := hF n (Nat.le_refl n) (Nat.lt_succ_self n)
  have := rel_new (ob := .map #[] 0) (o := .map []) (K := 0) hR hn (fun m kn tp c e => by cases e) (fun es e => by
    cases e
    exact ⟨#[], 0, Go.heap_alloc_new w _, rfl, fun e h => (by cases h), MapKept.stamped_empty 0⟩)
  have h2 := hK _ _ this.2 this.1 (upd_blk).2.2
  rw [conc_m, (upd_blk).1] at h2
  refine wp_v (s := Instr.makeMap t none) (by simp [execOp, ho]) ?_ h2
  simp [Instr.makeMap]
theorem getElem_repCells (z : AV) : ∀ (m : Nat), (repCells z m).len = m * z.len ∧ (ok r z → ok r (repCells z m)) ∧ (flat z → flat (repCells z m)) ∧ concL r (repCells z m) = (List.replicate m (concL r z)).flatten
  | 0 => ⟨by rw [Nat.zero_mul]; rfl, fun _ => trivial, fun _ => trivial, rfl⟩
  | m + 1 => by
    obtain ⟨h1, h2, h3, h4⟩ := getElem_repCells z m
    have e : repCells z (m + 1) = z.app (repCells z m) := rfl
    refine ⟨?_, fun h => by rw [e]; exact ok_app (h2 h) _ h, fun h => by rw [e]; exact flat_app (h3 h) _ h, ?_⟩
    · rw [e, ← len_concL (r := r), concL_app, List.length_append, len_concL, len_concL, h1]; rw [Nat.succ_mul]; omega
    · rw [e, concL_app, h4, List.replicate_succ, List.flatten_cons]
theorem flatten_get {l : List Value} (hl : 0 < l.length) : ∀ (m i : Nat), i < m * l.length → ((List.replicate m l).flatten)[i]? = l[i % l.length]?
  | 0, i, h => by omega
  | m + 1, i, h => by
    rw [List.replicate_succ, List.flatten_cons]
    rw [Nat.succ_mul] at h
    by_cases hi : i < l.length
    · rw [List.getElem?_append_left hi, Nat.mod_eq_of_lt hi]
    · rw [List.getElem?_append_right (by omega), flatten_get hl m (i - l.length) (by omega)]
      congr 1
      exact (Nat.mod_eq_sub_mod (by omega)).symm
theorem rep_range {m : Nat} {l : List Value} (hl : 0 < l.length) : (Array.range (m * l.length)).map (fun i => l.toArray[i % l.length]!) = ((List.replicate m l).flatten).toArray := by
  apply Array.ext'
  apply List.ext_getElem?
  intro i
  simp only [Array.toList_map, Array.toList_range, List.getElem?_map]
  by_cases hi : i < m * l.length
  · rw [flatten_get hl m i hi, List.getElem?_range hi]
    have := Nat.mod_lt i hl
    simp [this]
  · rw [List.getElem?_eq_none (by simpa using hi), List.getElem?_eq_none (by simpa using hi)]
    rfl
theorem goes_mks {E : Fns} {o : Oper} {d : Option Nat} {size : Nat} {z : AV} {l c : X} (hc : cOp P o = some (.mks d size z l c)) : Goes P E o (.mks d size z l c) := by
  intro k A B n D h
  have e : (I.mks d size z l c).run E k A B n D = stMks d size z l c k A B n D := rfl
  rw [e] at h ⊢
  unfold stMks at h ⊢
  obtain ⟨m, hm, e1⟩ := orec h
  rw [e1] at h ⊢
  obtain ⟨m', hm', e2⟩ := orec h
  rw [e2] at h ⊢
  obtain ⟨hb, e3⟩ := crec h
  rw [e3]
  simp only [Bool.and_eq_true, Nat.ble_eq] at hb
  obtain ⟨rfl, t, ty, l', c', ho, hu, hcl, hcc, hsz, hz, hlight, hzl, hpos⟩ := cOp_inv hc
  refine ⟨.sl n 0 m m', _, _, rfl, Nat.le_succ n, fun r w a hR ha hF K Q hK => ?_⟩
  have hn := hF n (Nat.le_refl n) (Nat.lt_succ_self n)
  cases hl1 : l.ev A with
  | none => rw [hl1] at hm; cases hm
  | some lv =>
    cases hc1 : c.ev A with
    | none => rw [hc1] at hm'; cases hm'
    | some cv =>
      rw [hl1] at hm
      rw [hc1] at hm'
      obtain ⟨k1, rfl⟩ := natOf_some hm
      obtain ⟨k2, rfl⟩ := natOf_some hm'
      obtain ⟨h1, _⟩ := cX_eval hR.glob hcl hl1 ha.1
      obtain ⟨h2, _⟩ := cX_eval hR.glob hcc hc1 ha.2
      obtain ⟨h3, h4, h5⟩ := zeroB_run (w := w) hz r
      have hzc : (concL r z.cells).length = size := by rw [len_concL, hzl]
      obtain ⟨g1, g2, g3, g4⟩ := getElem_repCells (r := r) z.cells m'
      obtain ⟨i, hi, hisz, _⟩ := info_size hsz
      have hbytes : i.bytes ≤ 4096 := by
        unfold lightB at hlight
        rw [hi] at hlight
        exact Nat.le_of_ble_eq_true hlight
      have hcells : (concL r (repCells z.cells m')).toArray.size = (bif true then m' * size else 0 * (m' * size)) := by
        simp [len_concL, g1, hzl]
      obtain ⟨h6, h7⟩ := rel_row (K := 0) (m := m' * size) (kn := true) (e := ty) hR hn (g2 (ok_cells h4)) (g3 (flat_cells h4 h5)) (cs := (concL r (repCells z.cells m')).toArray) (fun i v hv => by simpa using nth_concL hv) hcells (tp := 0) (fun e => by cases e)
      have := hK _ _ h7 h6 ⟨(upd_blk).2.2, hb.1⟩
      rw [conc_sl, (upd_blk).1] at this
      refine wp_v (s := Instr.makeSlice t (a.eval l') (a.eval c')) (by simp [execOp, ho]) ?_ this
      obtain ⟨i', zv, hi', hz', rfl⟩ := zero_info hz r
      rw [hi] at hi'
      cases hi'
      have hrun := run_make (P := P) w t ty i (conc r z) hu hi hz' k1 k2 m m' (by omega) (by omega) (by
        have : i.bytes * m' ≤ 4096 * 1000000 := Nat.mul_le_mul hbytes hb.2
        have h9 : ((i.bytes * m' : Nat) : Int) ≤ 4096000000 := by omega
        rw [Int.natCast_mul] at h9
        omega) (by omega)
      have hmk : madeCells (conc r z).cells (m' * size) = (concL r (repCells z.cells m')).toArray := by
        rw [g4, ← rep_range (by omega), hzc]
        have e : (conc r z).cells = (concL r z.cells).toArray := by rw [concL_cells]
        have e2 : (concL r z.cells).toArray.size = size := by simpa using hzc
        unfold madeCells
        rw [e, e2]
      simp only [Int.toNat_natCast, hisz, hmk] at hrun
      rw [h1, h2]
      exact hrun
theorem goes_bsl {E : Fns} {o : Oper} {d : Option Nat} {size len : Nat} {z : AV} {parts : List (Nat × Nat)} {xs : Xs} (hc : cOp P o = some (.bsl d size len z parts xs)) : Goes P E o (.bsl d size len z parts xs) := by
  intro k A B n D h
  have e : (I.bsl d size len z parts xs).run E k A B n D = stBsl d size len z parts xs k A B n D := rfl
  rw [e] at h ⊢
  unfold stBsl at h ⊢
  obtain ⟨l, hx, e1⟩ := orec h
  rw [e1] at h ⊢
  obtain ⟨c, hf, e2⟩ := orec h
  rw [e2]
  obtain ⟨rfl, t, ty, ps, ho, hu, hxs, hsz, hz, hzl, hpos, hsmall, rfl⟩ := cOp_inv hc
  refine ⟨.sl n 0 len len, _, _, rfl, Nat.le_succ n, fun r w a hR ha hF K Q hK => ?_⟩
  have hn := hF n (Nat.le_refl n) (Nat.lt_succ_self n)
  obtain ⟨h1, h2⟩ := cXs_eval hR.glob hxs hx ha
  have h1' : ps.toList.map (fun p => a.eval p.2) = concL r l := by rw [← h1, List.map_map]; rfl
  obtain ⟨_, h4, h5⟩ := zeroB_run (w := w) hz r
  have hzc : (concL r z.cells).length = size := by rw [len_concL, hzl]
  obtain ⟨g1, g2, g3, g4⟩ := getElem_repCells (r := r) z.cells len
  obtain ⟨i, hi, hisz, _⟩ := info_size hsz
  obtain ⟨i', zv, hi', hz', rfl⟩ := zero_info hz r
  rw [hi] at hi'
  cases hi'
  obtain ⟨h6, h7, h8, h9⟩ := fillB_run (r := r) (place := fun i => some (i * size, size)) (ps := ps.toList) (a := a) (by simp) h1' (g2 (ok_cells h4)) (g3 (flat_cells h4 h5)) h2 hf
  obtain ⟨k1, k2⟩ := rel_row (K := 0) (m := len * size) (kn := true) (e := ty) hR hn h7 h8 (cs := (concL r c).toArray) (fun i v hv => by simpa using nth_concL hv) (by simp [len_concL, h9, g1, hzl]) (tp := 0) (fun e => by cases e)
  have := hK _ _ k2 k1 ⟨(upd_blk).2.2, Nat.le_refl _⟩
  rw [conc_sl, (upd_blk).1] at this
  refine wp_v (s := Instr.buildSlice t len (ps.map fun (i, x) => (i, a.eval x))) (by simp [execOp, ho]) ?_ this
  by_cases h0 : len * size = 0
  · have hl0 : len = 0 := by
      rcases Nat.mul_eq_zero.1 h0 with h | h
      · exact h
      · omega
    subst hl0
    have hcn : concL r c = [] := List.eq_nil_of_length_eq_zero (by rw [len_concL, h9, g1]; simp)
    have hfill : Instr.fill (fun i => some (i * size, size)) #[] (ps.map fun (i, x) => (i, a.eval x)).toList = some #[] := by
      have e0 : (concL r (repCells z.cells 0)).toArray = #[] := rfl
      rw [e0, hcn] at h6
      simpa using h6
    have hrange : (Array.range 0).map (fun i => (#[] : Array Value)[i % (#[] : Array Value).size]!) = #[] := by simp
    simp only [Instr.buildSlice, Sem.run_bind, run_underlying hu, Result.andThen_ok, sizeB_run hsz, h0]
    simp only [Nat.reducePow, if_false, if_true, Sem.run_pure, Result.andThen_ok, Sem.run_bind, gt_iff_lt, Nat.not_lt_zero]
    rw [hrange, hfill]
    simp [newRow, hcn]
  · refine run_buildSlice (P := P) w t ty len _ (concL r c).toArray i (conc r z) hu hi hz' (by rw [hisz]; omega) (by rw [hisz]; exact h0) ?_
    rw [hisz]
    have hmk : (Array.range (len * size)).map (fun i => (conc r z).cells[i % (conc r z).cells.size]!) = (concL r (repCells z.cells len)).toArray := by
      rw [g4, ← rep_range (by omega), hzc]
      have e : (conc r z).cells = (concL r z.cells).toArray := by rw [concL_cells]
      have e2 : (concL r z.cells).toArray.size = size := by simpa using hzc
      rw [e, e2]
    rw [hmk]
    simpa using h6
theorem bytesOf_some : ∀ {c : AV} {l : List Nat}, bytesOf c = some l → concL r c = (l.map Int.ofNat).map (Value.int .u8) ∧ ∀ x ∈ l, x < 256
  | .nil, l, h => by simp only [bytesOf] at h; cases h; exact ⟨rfl, fun x hx => by cases hx⟩
  | .cons (.i .u8 (.ofNat n)) t, l, h => by
    simp only [bytesOf] at h
    obtain ⟨h0, h⟩ := brecO h
    obtain ⟨l', h1, rfl⟩ := map_some h
    obtain ⟨h2, h3⟩ := bytesOf_some h1
    refine ⟨?_, ?_⟩
    · rw [concL_cons, h2]; rfl
    · intro x hx
      rcases List.mem_cons.1 hx with e | e
      · rw [e]; simp [Nat.blt] at h0; omega
      · exact h3 x e
  | .cons (.i .u8 (.negSucc n)) t, l, h => by simp [bytesOf] at h
  | .cons (.i .i8 _) t, l, h | .cons (.i .i16 _) t, l, h | .cons (.i .i32 _) t, l, h | .cons (.i .i64 _) t, l, h | .cons (.i .u16 _) t, l, h | .cons (.i .u32 _) t, l, h | .cons (.i .u64 _) t, l, h => by simp [bytesOf] at h
  | .cons .nil t, l, h | .cons (.cons _ _) t, l, h | .cons (.b _) t, l, h | .cons (.s _) t, l, h | .cons (.p _ _) t, l, h | .cons .pn t, l, h | .cons (.sl _ _ _ _) t, l, h | .cons (.su _ _ _ _) t, l, h | .cons .sn t, l, h | .cons (.m _) t, l, h | .cons .mn t, l, h | .cons (.f _ _) t, l, h | .cons .fn t, l, h | .cons (.ifc _ _) t, l, h | .cons .ifn t, l, h | .cons (.ag _) t, l, h | .cons (.tu _) t, l, h => by simp [bytesOf] at h
  | .b _, l, h | .i _ _, l, h | .s _, l, h | .p _ _, l, h | .pn, l, h | .sl _ _ _ _, l, h | .su _ _ _ _, l, h | .sn, l, h | .m _, l, h | .mn, l, h | .f _ _, l, h | .fn, l, h | .ifc _ _, l, h | .ifn, l, h | .ag _, l, h | .tu _, l, h => by simp [bytesOf] at h
theorem bytesAV_facts : ∀ (l : List Nat), (bytesAV l).len = l.length ∧ ok r (bytesAV l) ∧ flat (bytesAV l) ∧ concL r (bytesAV l) = (l.map Int.ofNat).map (Value.int .u8)
  | [] => ⟨rfl, trivial, trivial, rfl⟩
  | x :: l => by
    obtain ⟨h1, h2, h3, h4⟩ := bytesAV_facts l
    have e : bytesAV (x :: l) = .cons (.i .u8 (.ofNat x)) (bytesAV l) := rfl
    rw [e]
    exact ⟨by simp [h1], ⟨trivial, h2⟩, ⟨rfl, h3⟩, by simp [h4]⟩
/-- The elements of a slice, or the bytes of a string. -/
theorem cellsOf_run {B : Tr AO} (hR : Rel P r B.get w) {size : Nat} {v c : AV} (hv : ok r v) (h : cellsOf B size v = some c) :
    (Builtin.firstCells size (lenAny v) (conc r v)).run P w = .ok (concL r c).toArray w ∧ (Builtin.lenOf (conc r v)).run P w = .ok (lenAny v) w ∧ ok r c ∧ flat c ∧ c.len = lenAny v * size := by
  unfold cellsOf at h
  split at h
  · cases h
    exact ⟨by simp [Builtin.firstCells], by simp [Builtin.lenOf, lenAny], trivial, trivial, by simp [lenAny]⟩
  · rename_i id off len cap
    cases e : cellsAt B id with
    | none => simp [e] at h
    | some t =>
      simp [e] at h
      obtain ⟨m, kn, tp, hb⟩ := cellsAt_some e
      have hrow := hR.row id m kn tp t _ _ hb (isSome_blk hv.1)
      obtain ⟨h1, h2, h3⟩ := hrow.load (P := P) h
      exact ⟨by simpa [Builtin.firstCells, lenAny] using h1, by simp [Builtin.lenOf, lenAny], h2, h3, (getCells_some h).1⟩
  · rename_i id off len cap
    cases e : cellsAt B id with
    | none => simp [e] at h
    | some t =>
      simp [e] at h
      obtain ⟨m, kn, tp, hb⟩ := cellsAt_some e
      have hrow := hR.row id m kn tp t _ _ hb (isSome_blk hv.1)
      obtain ⟨h1, h2, h3⟩ := hrow.load (P := P) h
      exact ⟨by simpa [Builtin.firstCells, lenAny] using h1, by simp [Builtin.lenOf, lenAny], h2, h3, (getCells_some h).1⟩
  · rename_i l
    obtain ⟨hs, h⟩ := brecO h
    cases h
    have hs : size = 1 := by simpa using hs
    subst hs
    obtain ⟨h1, h2, h3, h4⟩ := bytesAV_facts (r := r) l
    refine ⟨?_, by simp [Builtin.lenOf, lenAny, strOf_size], h2, h3, by rw [h1]; simp [lenAny]⟩
    rw [h4]
    have e : (strOf l).extract 0 l.length = strOf l := by rw [strOf_extract]; simp
    simp only [conc_s, Builtin.firstCells, lenAny, e, Sem.run_pure]
    congr 1
    apply Array.ext'
    simp only [strOf, Array.toList_map, List.map_map]
    apply List.map_congr_left
    intro x hx
    have := hv x hx
    simp [Function.comp, Nat.mod_eq_of_lt this]
  · cases h
theorem goes_b2s {E : Fns} {o : Oper} {d : Option Nat} {x : X} (hc : cOp P o = some (.b2s d x)) : Goes1 P E o (.b2s d x) := by
  intro k A B n D h
  have e : (I.b2s d x).run E k A B n D = stB2s d x k A B n D := rfl
  rw [e] at h ⊢
  unfold stB2s at h ⊢
  obtain ⟨v, hx, e1⟩ := orec h
  rw [e1] at h ⊢
  obtain ⟨c, hcc, e2⟩ := orec h
  rw [e2] at h ⊢
  obtain ⟨l, hl, e3⟩ := orec h
  rw [e3]
  obtain ⟨rfl, s, t, ty, y, ho, hs, ht, he, hsz, hy⟩ := cOp_inv hc
  refine ⟨.s l, rfl, fun r w a hR ha => ?_⟩
  obtain ⟨h1, h2⟩ := cX_eval hR.glob hy hx ha
  obtain ⟨g1, g2⟩ := bytesOf_some (r := r) hl
  refine ⟨g2, fun K Q hK => ?_⟩
  refine wp_v (s := convert s t (a.eval y)) (by simp [execOp, ho]) ?_ hK
  rw [h1]
  have hfold : ∀ (l : List Nat) (b : ByteArray), (l.map Int.ofNat).foldl (fun r n => r.push (UInt8.ofNat n.toNat)) b = b ++ strOf l := by
    intro l
    induction l with
    | nil => intro b; simp [strOf]; apply ByteArray.ext; simp
    | cons x l ih =>
      intro b
      simp only [List.map_cons, List.foldl_cons, ih]
      apply ByteArray.ext
      simp [strOf]
  unfold cellsOf at hcc
  split at hcc
  · cases hcc
    have : some ([] : List Nat) = some l := hl
    cases this
    rw [conc_sn, run_convert_bytes_string w s t ty _ _ _ hs he ht]
    simp [Conv.bytesToString, strOf]
    rfl
  · rename_i id off len cap
    cases e : cellsAt B id with
    | none => simp [e] at hcc
    | some tr =>
      simp [e] at hcc
      obtain ⟨m, kn, tp, hb⟩ := cellsAt_some e
      have hrow := hR.row id m kn tp tr _ _ hb (isSome_blk h2.1)
      obtain ⟨h3, _, _⟩ := hrow.load (P := P) hcc
      rw [conc_sl, run_convert_bytes_string w s t ty _ _ _ hs he ht, run_bytesToString w _ _ _ _ (by rw [← g1]; exact h3), hfold]
      simp
  · rename_i id off len cap
    cases e : cellsAt B id with
    | none => simp [e] at hcc
    | some tr =>
      simp [e] at hcc
      obtain ⟨m, kn, tp, hb⟩ := cellsAt_some e
      have hrow := hR.row id m kn tp tr _ _ hb (isSome_blk h2.1)
      obtain ⟨h3, _, _⟩ := hrow.load (P := P) hcc
      rw [conc_su, run_convert_bytes_string w s t ty _ _ _ hs he ht, run_bytesToString w _ _ _ _ (by rw [← g1]; exact h3), hfold]
      simp
  · rename_i l'
    have hcc : some (bytesAV l') = some c := hcc
    cases hcc
    obtain ⟨_, _, _, h4⟩ := bytesAV_facts (r := r) l'
    rw [h4] at g1
    have hll : l' = l := by
      have := (List.map_inj_right (f := Value.int .u8) (fun a b h => by injection h)).1 g1
      exact (List.map_inj_right (f := Int.ofNat) (fun a b h => by injection h)).1 this
    subst hll
    simp [convert, run_underlying hs, run_underlying ht]
  · cases hcc
end
end Go.Ev
end

section
namespace Go.Ev
open Go Go.RowKit
section
variable {P : Program} {r r' : Rho} {A : Tr AV} {a : Act} {w : World} {B : Tr AO} {n : Nat}

theorem eqSK_true {k : SK} {x y : AV} (hx : ok r x) (hy : ok r y) (h : eqSK k x y = some true) : conc r x = conc r y ∧ (∀ m, Instr.sameBits m (conc r x) (conc r x) = true) := by
  cases k with
  | int =>
    obtain ⟨k, a, b, rfl, rfl, e⟩ := eqInt_some h
    have : a = b := by simpa using e.symm
    subst this
    exact ⟨rfl, fun m => by cases m <;> simp [Instr.sameBits]⟩
  | str =>
    have h : eqStr x y = some true := h
    unfold eqStr at h
    split at h
    · rename_i x y _
      have e := (eqN_iff).1 (by injection h)
      subst e
      refine ⟨rfl, fun m => ?_⟩
      have : (strOf x == strOf x) = true := by rw [beq_toListBytes]; simp
      cases m <;> simpa [Instr.sameBits] using this
    · cases h
  | bool =>
    have h : eqBool x y = some true := h
    unfold eqBool at h
    split at h
    · rename_i x y _
      have e := by simpa using h
      subst e
      exact ⟨rfl, fun m => by cases m <;> simp [Instr.sameBits]⟩
    · cases h
theorem eqF_true : ∀ {l : List SK} {x y : AV}, ok r x → ok r y → x.len = l.length → y.len = l.length → eqF l x y = some true → concL r x = concL r y ∧ ∀ v ∈ concL r x, ∀ m, Instr.sameBits m v v = true
  | [], x, y, _, _, h1, h2, _ => by
    have e1 : concL r x = [] := List.eq_nil_of_length_eq_zero (by rw [len_concL]; exact h1)
    have e2 : concL r y = [] := List.eq_nil_of_length_eq_zero (by rw [len_concL]; exact h2)
    rw [e1, e2]
    exact ⟨rfl, fun v hv => by cases hv⟩
  | k :: l, x, y, ox, oy, h1, h2, h => by
    obtain ⟨u, v, q, hu, hv, h3, h4⟩ := eqF_cons h
    have ex := hd_some hu
    have ey := hd_some hv
    cases q with
    | false => exact absurd h4 (by simp)
    | true =>
      rw [ex] at ox h1 ⊢
      rw [ey] at oy h2 ⊢
      obtain ⟨g1, g2⟩ := eqSK_true ox.1 oy.1 h3
      obtain ⟨g3, g4⟩ := eqF_true (l := l) (x := x.tl) (y := y.tl) ox.2 oy.2 (by simpa using h1) (by simpa using h2) h4
      refine ⟨by rw [concL_cons, concL_cons, g1, g3], fun z hz => ?_⟩
      rcases List.mem_cons.1 hz with e | e
      · rw [e]; exact g2
      · exact g4 z e
theorem eqSK_false {k : SK} {x y : AV} (hx : ok r x) (hy : ok r y) (h : eqSK k x y = some false) : conc r x ≠ conc r y := by
  cases k with
  | int =>
    obtain ⟨k, a, b, rfl, rfl, e⟩ := eqInt_some h
    intro h
    simp only [conc_i, Value.int.injEq] at h
    simp [h.2] at e
  | str =>
    have h : eqStr x y = some false := h
    unfold eqStr at h
    split at h
    · rename_i x y _
      intro h2
      have h2 : Value.string (strOf x) = Value.string (strOf y) := h2
      injection h2 with h2
      have h3 := strOf_beq hx hy
      have h4 : (strOf x == strOf y) = true := by rw [h2, beq_toListBytes]; simp
      injection h with h
      rw [beq_toListBytes] at h4
      first | (rw [h3, h] at h4; cases h4) | (rw [h4, h] at h3; cases h3)
    · cases h
  | bool =>
    have h : eqBool x y = some false := h
    unfold eqBool at h
    split at h
    · rename_i x y _
      intro h2
      have h2 : Value.bool x = Value.bool y := h2
      injection h2 with h2
      simp [h2] at h
    · cases h
theorem eqF_false : ∀ {l : List SK} {x y : AV}, ok r x → ok r y → eqF l x y = some false → concL r x ≠ concL r y
  | [], x, y, _, _, h => by
    have h : some true = some false := h
    cases h
  | k :: l, x, y, ox, oy, h => by
    obtain ⟨u, v, q, hu, hv, h3, h4⟩ := eqF_cons h
    have ex := hd_some hu
    have ey := hd_some hv
    rw [ex] at ox ⊢
    rw [ey] at oy ⊢
    rw [concL_cons, concL_cons]
    intro h5
    injection h5 with h5 h6
    cases q with
    | false => exact eqSK_false ox.1 oy.1 h3 h5
    | true => exact eqF_false ox.2 oy.2 h4 h6
theorem zip_same : ∀ {l : List Value} {u v : Value}, (u, v) ∈ l.zip l → u = v
  | x :: l, u, v, h => by
    rw [List.zip_cons_cons] at h
    rcases List.mem_cons.1 h with e | e
    · cases e; rfl
    · exact zip_same e
/-- Keys that are found equal are equal. -/
theorem key_true {kt : Nat} {ek : EK} (hk : keyK P kt = some ek) {x y : AV} (ox : ok r x) (oy : ok r y) (h : eqEK ek x y = some true) : conc r x = conc r y ∧ Instr.sameBits 10000 (conc r x) (conc r x) = true := by
  unfold keyK at hk
  split at hk
  · cases hk
  · rename_i k hn hek
    cases hk
    have h : eqSK k x y = some true := h
    obtain ⟨h1, h2⟩ := eqSK_true ox oy h
    exact ⟨h1, h2 10000⟩
  · rename_i l hek
    cases hk
    have h : eqFlat l x y = some true := h
    unfold eqFlat at h
    split at h
    · rename_i x y _
      obtain ⟨hb, h⟩ := brecO h
      simp only [Bool.and_eq_true, Nat.beq_eq] at hb
      obtain ⟨h1, h2⟩ := eqF_true (x := x) (y := y) ox.1 oy.1 hb.1 hb.2 h
      refine ⟨by simp [h1], ?_⟩
      simp only [conc_ag]
      unfold Instr.sameBits
      simp only [List.size_toArray, beq_self_eq_true, Bool.true_and, List.all_eq_true]
      rintro ⟨u, v⟩ hm
      have : u = v ∧ u ∈ concL r x := by
        exact ⟨zip_same hm, (List.of_mem_zip hm).1⟩
      rw [← this.1]
      exact h2 u this.2 _
    · cases h
  · cases hk
/-- Keys that are found unlike are not the same. -/
theorem key_false {kt : Nat} {ek : EK} (hk : keyK P kt = some ek) {x y : AV} (ox : ok r x) (oy : ok r y) (h : eqEK ek x y = some false) : conc r x ≠ conc r y := by
  unfold keyK at hk
  split at hk
  · cases hk
  · rename_i k hn hek
    cases hk
    exact eqSK_false ox oy (show eqSK k x y = some false from h)
  · rename_i l hek
    cases hk
    have h : eqFlat l x y = some false := h
    unfold eqFlat at h
    split at h
    · rename_i x y _
      obtain ⟨hb, h⟩ := brecO h
      intro h2
      simp only [conc_ag, Value.agg.injEq] at h2
      exact eqF_false (x := x) (y := y) ox.1 oy.1 h (by simpa using h2)
    · cases h
  · cases hk
theorem ekOf_keyK {kt : Nat} {ek : EK} (hk : keyK P kt = some ek) : ekOf P kt = some ek := by
  unfold keyK at hk
  split at hk
  · cases hk
  · rename_i h; cases hk; exact h
  · rename_i h; cases hk; exact h
  · cases hk
theorem scal_check {t : Nat} {k : SK} (h : scal P t = some k) (empty : Bool) (d : Nat) (v : Value) : (Instr.checkKey empty (d + 1) t v).run P w = .ok () w := by
  unfold scal at h
  split at h <;> cases h
  all_goals
    rename_i hu
    unfold Instr.checkKey
    rw [Sem.run_bind, run_underlying hu]
    rfl
theorem check_fields (empty : Bool) (d : Nat) (X : List Value) : ∀ {fs : List Field} {n : Nat} {l : List SK}, flatF P n fs = some l → n + l.length ≤ X.length →
    (forIn fs PUnit.unit (fun (f : Field) (_ : PUnit) => (do if f.name ≠ "_" then (do let v ← part f.type X.toArray f.offset; Instr.checkKey empty (d + 1) f.type v; pure (ForInStep.yield PUnit.unit)) else pure (ForInStep.yield PUnit.unit) : Sem (ForInStep PUnit)))).run P w = .ok PUnit.unit w
  | [], n, l, h, _ => by simp
  | f :: fs, n, l, h, hl => by
    simp only [flatF] at h
    split at h
    · rename_i k l' hk hz hl'
      cases e : (Nat.beq f.offset n && f.name != "_") with
      | false => rw [e] at h; cases h
      | true =>
        rw [e] at h; cases h
        simp only [Bool.and_eq_true] at e
        have hoff : f.offset = n := by simpa using e.1
        have hname : f.name ≠ "_" := by simpa using e.2
        simp only [List.length_cons] at hl
        have hx : X.toArray[f.offset]? = some X[n] := by rw [hoff]; simp
        have ih := check_fields empty d X hl' (by omega)
        rw [List.forIn_cons, Sem.run_bind, if_pos hname]
        simp only [Sem.run_bind, part_scal hk hx, Result.andThen_ok, scal_check hk, Sem.run_pure]
        exact ih
    · cases h
theorem check_items (empty : Bool) (d : Nat) (X : List Value) {e : TypeId} {k : SK} (hk : scal P e = some k) (hz : sizeB P e = some 1) : ∀ (m n : Nat), n + m ≤ X.length →
    (forIn (List.range' n m) PUnit.unit (fun (i : Nat) (_ : PUnit) => (do let s ← sizeOf e; let v ← part e X.toArray (i * s); Instr.checkKey empty (d + 1) e v; pure (ForInStep.yield PUnit.unit) : Sem (ForInStep PUnit)))).run P w = .ok PUnit.unit w
  | 0, n, _ => by simp
  | m + 1, n, h => by
    have hx : X.toArray[n * 1]? = some X[n] := by simp
    have ih := check_items empty d X hk hz m (n + 1) (by omega)
    rw [List.range'_succ, List.forIn_cons, Sem.run_bind]
    simp only [Sem.run_bind, sizeB_run hz, Result.andThen_ok, part_scal hk hx, scal_check hk, Sem.run_pure]
    exact ih
/-- A key of such a type can be looked for. -/
theorem checkKey_run {kt : Nat} {ek : EK} (hk : keyK P kt = some ek) {q : AV} (hb : keyB ek q = true) (empty : Bool) :
    (Instr.checkKey empty 10000 kt (conc r q)).run P w = .ok () w := by
  have hek := ekOf_keyK hk
  unfold keyK at hk
  split at hk
  · cases hk
  · rename_i k hn _
    cases hk
    unfold ekOf at hek
    split at hek
    all_goals try (cases hek; done)
    · rename_i j hu; exact scal_check (k := .int) (by simp [scal, hu]) empty 9999 _
    · rename_i hu; exact scal_check (k := .str) (by simp [scal, hu]) empty 9999 _
    · rename_i hu; exact scal_check (k := .bool) (by simp [scal, hu]) empty 9999 _
    · obtain ⟨_, h⟩ := bif_some hek
      obtain ⟨u, _, h⟩ := map_some h; cases h
    · split at hek
      · obtain ⟨_, h⟩ := bif_some hek; cases h
      · cases hek
  · rename_i l _
    cases hk
    have hb : flatLen l q = true := hb
    unfold flatLen at hb
    split at hb
    · rename_i x _
      have hlen : x.len = l.length := by simpa using hb
      unfold ekOf at hek
      split at hek
      all_goals try (cases hek; done)
      · rename_i fs hu
        obtain ⟨_, h⟩ := bif_some hek
        obtain ⟨l', hl, h⟩ := map_some h
        cases h
        rw [conc_ag]
        unfold Instr.checkKey
        rw [Sem.run_bind, run_underlying hu]
        have := check_fields (w := w) (P := P) empty 9998 (concL r x) hl (by rw [len_concL, hlen]; omega)
        simp only [Result.andThen_ok]
        rw [← Array.forIn_toList, Sem.run_bind]
        have e9 : (9998 + 1 : Nat) = 9999 := rfl
        rw [e9] at this
        rw [this]
        rfl
      · rename_i m e hu
        split at hek
        · rename_i k hsc hz
          obtain ⟨_, h⟩ := bif_some hek
          cases h
          rw [conc_ag]
          have := check_items (w := w) (P := P) empty 9998 (concL r x) hsc hz m 0 (by rw [len_concL, hlen]; simp)
          unfold Instr.checkKey
          rw [Sem.run_bind, run_underlying hu]
          simp only [Result.andThen_ok]
          rw [Sem.run_bind]
          simp only [Std.Legacy.Range.forIn_eq_forIn_range', Std.Legacy.Range.size, Nat.sub_zero, Nat.add_one_sub_one, Nat.div_one]
          have e9 : (9998 + 1 : Nat) = 9999 := rfl
          rw [e9] at this
          rw [this]
          rfl
        · cases hek
    · cases hb
  · cases hk
end
end Go.Ev
end

section
namespace Go.Ev
open Go Go.RowKit
section
variable {P : Program} {r r' : Rho} {A : Tr AV} {a : Act} {w : World} {B : Tr AO} {n : Nat}

theorem eqEK_at {kt : Nat} {ek : EK} (hk : keyK P kt = some ek) {x y : AV} {q : Bool} (ox : ok r x) (oy : ok r y) (h : eqEK ek x y = some q) : (Op.equal kt (conc r x) (conc r y)).run P w = .ok q w :=
  eqEK_run (w := w) (ekOf_keyK hk) ox oy h 9998
/-- What the quick comparison says is right. -/
theorem sameNow_eq {kt : Nat} {ek : EK} (hk : keyK P kt = some ek) {td : TypeDesc} (hu : P.underlying kt = some td) {x y : AV} {q q' : Bool} (ox : ok r x) (oy : ok r y) (h : eqEK ek x y = some q) (h2 : Instr.sameNow td (conc r x) (conc r y) = some q') : q' = q := by
  have hek := ekOf_keyK hk
  unfold keyK at hk
  split at hk
  · cases hk
  · rename_i k hn _
    cases hk
    have h : eqSK k x y = some q := h
    cases k with
    | int =>
      obtain ⟨k, a, b, rfl, rfl, rfl⟩ := eqInt_some h
      unfold Instr.sameNow at h2
      split at h2 <;> simp_all
    | str =>
      have h : eqStr x y = some q := h
      unfold eqStr at h
      split at h <;> cases h
      rename_i a b
      unfold Instr.sameNow at h2
      simp only [conc_s] at h2
      split at h2
      · rename_i e1 e2; cases e1
      · rename_i e1 e2; cases e1; cases e2
        rw [← strOf_beqB ox oy]; injection h2 with h2; exact h2.symm
      · rename_i e1 e2; cases e1
      · cases h2
    | bool => exact absurd rfl (hn)
  · rename_i l _
    cases hk
    have h : eqFlat l x y = some q := h
    unfold eqFlat at h
    split at h
    · unfold Instr.sameNow at h2
      simp only [conc_ag] at h2
      cases h2
    · cases h
  · cases hk
/-- The entries of a map, and what is known of them. -/
def Ents (r : Rho) (l : List MapEntry) (es : List (AV × AV)) : Prop := l.map (fun e => (e.key, e.val)) = es.map (fun e => (conc r e.1, conc r e.2)) ∧ ∀ e ∈ es, ok r e.1 ∧ ok r e.2
theorem Ents.cons {l : List MapEntry} {e : AV × AV} {es : List (AV × AV)} (h : Ents r l (e :: es)) : ∃ m l', l = m :: l' ∧ m.key = conc r e.1 ∧ m.val = conc r e.2 ∧ ok r e.1 ∧ ok r e.2 ∧ Ents r l' es := by
  obtain ⟨h1, h2⟩ := h
  cases l with
  | nil => cases h1
  | cons m l' =>
    simp only [List.map_cons, List.cons.injEq, Prod.mk.injEq] at h1
    exact ⟨m, l', rfl, h1.1.1, h1.1.2, (h2 e (by simp)).1, (h2 e (by simp)).2, h1.2, fun x hx => h2 x (by simp [hx])⟩
/-- The first entry whose key is equal. -/
def First (ek : EK) (q : AV) (es : List (AV × AV)) (j : Nat) : Prop := (∃ e, es[j]? = some e ∧ eqEK ek q e.1 = some true) ∧ ∀ k, k < j → ∃ e, es[k]? = some e ∧ eqEK ek q e.1 = some false
theorem First.eq {ek : EK} {q : AV} {es : List (AV × AV)} {j k : Nat} (h : First ek q es j) (g : First ek q es k) : j = k := by
  rcases Nat.lt_trichotomy j k with c | c | c
  · obtain ⟨e, h1, h2⟩ := h.1
    obtain ⟨e', h3, h4⟩ := g.2 j c
    rw [h1] at h3; cases h3
    rw [h2] at h4; cases h4
  · exact c
  · obtain ⟨e, h1, h2⟩ := g.1
    obtain ⟨e', h3, h4⟩ := h.2 k c
    rw [h1] at h3; cases h3
    rw [h2] at h4; cases h4
theorem First.zero {ek : EK} {q : AV} {e : AV × AV} {es : List (AV × AV)} (h : eqEK ek q e.1 = some true) : First ek q (e :: es) 0 := ⟨⟨e, rfl, h⟩, fun k hk => absurd hk (Nat.not_lt_zero k)⟩
theorem First.succ {ek : EK} {q : AV} {e : AV × AV} {es : List (AV × AV)} {j : Nat} (h : eqEK ek q e.1 = some false) (g : First ek q es j) : First ek q (e :: es) (j + 1) := by
  refine ⟨by simpa using g.1, fun k hk => ?_⟩
  cases k with
  | zero => exact ⟨e, rfl, h⟩
  | succ k => simpa using g.2 k (by omega)
/-- What a search finds: nothing, or the first entry whose key is equal. -/
def Hit (r : Rho) (ek : EK) (es : List (AV × AV)) (q : AV) (l : List MapEntry) (i : Nat) (res : Option AV) (out : Option (Nat × Value)) : Prop :=
  match res with
  | none => out = none
  | some v => ∃ j e, out = some (i + j, conc r v) ∧ l[j]? = some e ∧ e.key = conc r q ∧ ok r v ∧ First ek q es j
theorem findE_cons {ek : EK} {q : AV} {e : AV × AV} {es : List (AV × AV)} {res : Option AV} (h : findE ek q (e :: es) = some res) :
    ∃ b, eqEK ek q e.1 = some b ∧ (b = true ∧ res = some e.2 ∨ b = false ∧ findE ek q es = some res) := by
  obtain ⟨b, hb, h⟩ := orecO (show (@Option.rec Bool (fun _ => Option (Option AV)) none (fun b => @Bool.rec (fun _ => Option (Option AV)) (findE ek q es) (some (some e.2)) b) (eqEK ek q e.1)) = some res from h)
  refine ⟨b, hb, ?_⟩
  cases b with
  | false => exact .inr ⟨rfl, h⟩
  | true => cases h; exact .inl ⟨rfl, rfl⟩
theorem find_run {kt : Nat} {ek : EK} (hk : keyK P kt = some ek) {td : TypeDesc} (hu : P.underlying kt = some td) {q : AV} (oq : ok r q) : ∀ {es : List (AV × AV)} {l : List MapEntry} {res : Option AV} (i : Nat), Ents r l es → findE ek q es = some res →
    ∃ out, (Instr.findAsking kt (conc r q) l i).run P w = .ok out w ∧ (Instr.findNow td (conc r q) l i = none ∨ Instr.findNow td (conc r q) l i = some out) ∧ Hit r ek es q l i res out
  | [], l, res, i, hl, h => by
    have : some none = some res := h
    cases this
    have : l = [] := by cases l with | nil => rfl | cons => cases hl.1
    subst this
    exact ⟨none, by simp [Instr.findAsking], .inr rfl, rfl⟩
  | e :: es, l, res, i, hl, h => by
    obtain ⟨m, l', rfl, h1, h2, h3, h4, h5⟩ := hl.cons
    obtain ⟨b, hb, hcase⟩ := findE_cons h
    have heq := eqEK_at (w := w) hk oq h3 hb
    rcases hcase with ⟨rfl, rfl⟩ | ⟨rfl, hrest⟩
    · refine ⟨some (i, m.val), ?_, ?_, 0, m, by rw [h2]; rfl, rfl, by rw [h1]; exact (key_true hk oq h3 hb).1.symm, h4, First.zero hb⟩
      · simp [Instr.findAsking, h1, heq]
      · cases hs : Instr.sameNow td (conc r q) m.key with
        | none => exact .inl (by simp [Instr.findNow, hs])
        | some q' =>
          have := sameNow_eq hk hu oq h3 hb (by rw [← h1]; exact hs)
          subst this
          exact .inr (by simp [Instr.findNow, hs])
    · obtain ⟨out, g1, g2, g3⟩ := find_run hk hu oq (i + 1) h5 hrest
      refine ⟨out, ?_, ?_, ?_⟩
      · simp [Instr.findAsking, h1, heq, g1]
      · cases hs : Instr.sameNow td (conc r q) m.key with
        | none => exact .inl (by simp [Instr.findNow, hs])
        | some q' =>
          have := sameNow_eq hk hu oq h3 hb (by rw [← h1]; exact hs)
          subst this
          rcases g2 with g2 | g2
          · exact .inl (by simp [Instr.findNow, hs, g2])
          · exact .inr (by simp [Instr.findNow, hs, g2])
      · cases res with
        | none => exact g3
        | some v =>
          obtain ⟨j, e', k1, k2, k3, k4, k5⟩ := g3
          exact ⟨j + 1, e', by rw [k1]; congr 2; omega, by simpa using k2, k3, k4, First.succ hb k5⟩
theorem findKey_run {kt : Nat} {ek : EK} (hk : keyK P kt = some ek) {q : AV} (oq : ok r q) {es : List (AV × AV)} {l : List MapEntry} {res : Option AV} (hl : Ents r l es) (h : findE ek q es = some res) :
    ∃ out, (Instr.findKey kt (conc r q) l).run P w = .ok out w ∧ Hit r ek es q l 0 res out := by
  cases hu : P.underlying kt with
  | none =>
    have := ekOf_keyK hk
    unfold ekOf at this
    rw [hu] at this
    cases this
  | some td =>
    obtain ⟨out, h1, h2, h3⟩ := find_run (w := w) hk hu oq 0 hl h
    refine ⟨out, ?_, h3⟩
    unfold Instr.findKey
    rw [Sem.run_bind, run_underlying hu]
    simp only [Result.andThen_ok]
    rcases h2 with h2 | h2
    · rw [h2]; exact h1
    · rw [h2]; rfl
theorem getObj_run {b : Nat} {es : Array MapEntry} {clock : Nat} (h : w.heap[b]? = some (.map es clock)) : (getObj b).run P w = .ok (.map es clock) w := MapKept.run_getObj_map h
theorem mapAt_run {B : Tr AO} (hR : Rel P r B.get w) {v : AV} (hv : ok r v) {es : List (AV × AV)} (h : mapAt B v = some es) :
    (v = .mn ∧ es = []) ∨ ∃ id ent clock, v = .m id ∧ B.get id = some (.map es) ∧ w.heap[r.blk id]? = some (.map ent clock) ∧ Ents r ent.toList es := by
  unfold mapAt at h
  split at h
  · cases h; exact .inl ⟨rfl, rfl⟩
  · rename_i id
    split at h
    · rename_i es' hb
      cases h
      obtain ⟨ent, clock, h1, h2, h3, _⟩ := hR.map id es _ _ hb (isSome_blk hv)
      exact .inr ⟨id, ent, clock, rfl, hb, h1, h2, h3⟩
    · cases h
  · cases h
theorem goes_mlen {E : Fns} {o : Oper} {d : Option Nat} {x : X} (hc : cOp P o = some (.mlen d x)) : Goes1 P E o (.mlen d x) := by
  intro k A B n D h
  have e : (I.mlen d x).run E k A B n D = stMlen d x k A B n D := rfl
  rw [e] at h ⊢
  unfold stMlen at h ⊢
  obtain ⟨es, hx, e1⟩ := orec h
  rw [e1]
  obtain ⟨rfl, t, kt, et, x', ho, hu, hcx⟩ := cOp_inv hc
  refine ⟨.i .i64 (.ofNat es.length), rfl, fun r w a hR ha => ⟨trivial, fun K Q hK => ?_⟩⟩
  cases hv : x.ev A with
  | none => rw [hv] at hx; cases hx
  | some v =>
    rw [hv] at hx
    have hx : mapAt B v = some es := hx
    obtain ⟨h1, h2⟩ := cX_eval hR.glob hcx hv ha
    refine wp_v (s := Builtin.len_ #[t] o.type #[a.eval x']) (by simp [execOp, ho, resolve, invoke, builtin]) ?_ hK
    rw [h1]
    rcases mapAt_run hR h2 hx with ⟨rfl, rfl⟩ | ⟨id, ent, clock, rfl, hb, h3, h4⟩
    · simp [Builtin.len_, run_underlying hu, goInt]
    · have hl : ent.size = es.length := by
        have := congrArg List.length h4.1
        simpa using this
      simp [Builtin.len_, run_underlying hu, goInt, getObj_run h3, hl]
theorem goes_lk {E : Fns} {o : Oper} {d : Option Nat} {ek : EK} {z : AV} {okb : Bool} {x y : X} (hc : cOp P o = some (.lk d ek z okb x y)) : Goes1 P E o (.lk d ek z okb x y) := by
  intro k A B n D h
  have e : (I.lk d ek z okb x y).run E k A B n D = stLk d ek z okb x y k A B n D := rfl
  rw [e] at h ⊢
  unfold stLk at h ⊢
  obtain ⟨m, hx, e1⟩ := orec h
  rw [e1] at h ⊢
  obtain ⟨q, hy, e2⟩ := orec h
  rw [e2] at h ⊢
  obtain ⟨es, hm, e3⟩ := orec h
  rw [e3] at h ⊢
  obtain ⟨res, hf, e4⟩ := orec h
  rw [e4]
  obtain ⟨hkb, hf⟩ := brecO hf
  obtain ⟨rfl, t, kt, et, x', y', ho, hu, hk, hz, hcx, hcy⟩ := cOp_inv hc
  refine ⟨_, rfl, fun r w a hR ha => ?_⟩
  obtain ⟨h1, h2⟩ := cX_eval hR.glob hcx hx ha.1
  obtain ⟨h3, h4⟩ := cX_eval hR.glob hcy hy ha.2
  obtain ⟨h5, h6, _⟩ := zeroB_run (w := w) hz r
  have hok : ok r (@Option.rec AV (fun _ => AV) (okOf okb z false) (fun v => okOf okb v true) res) ∧ (∀ ent : Array MapEntry, Ents r ent.toList es → ∃ out, (Instr.findKey kt (conc r q) ent.toList).run P w = .ok out w ∧
      (match out with
      | some (_, v) => do pure (if okb then Value.tuple #[v, .bool true] else v)
      | none => do
        let v ← zeroValue et
        pure (if okb then Value.tuple #[v, .bool false] else v) : Sem Value).run P w = .ok (conc r (@Option.rec AV (fun _ => AV) (okOf okb z false) (fun v => okOf okb v true) res)) w) := by
    have hne : ∀ ent : Array MapEntry, Ents r ent.toList es → ∃ out, (Instr.findKey kt (conc r q) ent.toList).run P w = .ok out w ∧ Hit r ek es q ent.toList 0 res out := fun ent g => findKey_run (w := w) hk h4 g hf
    have hokr : ok r (@Option.rec AV (fun _ => AV) (okOf okb z false) (fun v => okOf okb v true) res) := by
      cases res with
      | none => cases okb <;> first | exact h6 | exact ⟨h6, trivial, trivial⟩
      | some v =>
        have hv : ok r v := by
          rcases mapAt_run hR h2 hm with ⟨rfl, rfl⟩ | ⟨id, ent, clock, rfl, hb, g3, g4⟩
          · cases hf
          · obtain ⟨out, _, j, e', _, _, _, k4, _⟩ := hne ent g4
            exact k4
        cases okb <;> first | exact hv | exact ⟨hv, trivial, trivial⟩
    refine ⟨hokr, fun ent g => ?_⟩
    obtain ⟨out, g3, g4⟩ := hne ent g
    refine ⟨out, g3, ?_⟩
    cases res with
    | none =>
      have : out = none := g4
      subst this
      cases okb <;> simp [h5] <;> rfl
    | some v =>
      obtain ⟨j, e', k1, k2, k3, k4, _⟩ := g4
      subst k1
      cases okb <;> simp <;> rfl
  have hres : (Instr.lookup t (conc r m) (conc r q) okb).run P w = .ok (conc r (@Option.rec AV (fun _ => AV) (okOf okb z false) (fun v => okOf okb v true) res)) w ∧ ok r (@Option.rec AV (fun _ => AV) (okOf okb z false) (fun v => okOf okb v true) res) := by
    refine ⟨?_, hok.1⟩
    rcases mapAt_run hR h2 hm with ⟨rfl, rfl⟩ | ⟨id, ent, clock, rfl, hb, g3, g4⟩
    · obtain ⟨out, k1, k2⟩ := hok.2 #[] ⟨rfl, fun e h => by cases h⟩
      unfold Instr.lookup
      rw [Sem.run_bind, run_underlying hu]
      simp only [Result.andThen_ok, conc_mn, Sem.run_bind, Sem.run_pure, checkKey_run hk hkb]
      rw [k1]
      simp only [Result.andThen_ok]
      cases out <;> simpa using k2
    · obtain ⟨out, k1, k2⟩ := hok.2 ent g4
      unfold Instr.lookup
      rw [Sem.run_bind, run_underlying hu]
      simp only [Result.andThen_ok, conc_m, Sem.run_bind, Sem.run_pure, getObj_run g3, checkKey_run hk hkb]
      rw [k1]
      simp only [Result.andThen_ok]
      cases out <;> simpa using k2
  refine ⟨hres.2, fun K Q hK => ?_⟩
  refine wp_v (s := Instr.lookup t (a.eval x') (a.eval y') okb) (by simp [execOp, ho]) ?_ hK
  rw [h1, h3]
  exact hres.1
theorem putE_spec {ek : EK} {q v : AV} : ∀ {es es' : List (AV × AV)}, putE ek q v es = some es' →
    (findE ek q es = some none ∧ es' = es ++ [(q, v)]) ∨ ∃ j u, findE ek q es = some (some u) ∧ First ek q es j ∧ es' = es.set j (q, v)
  | [], es', h => by
    have : some [(q, v)] = some es' := h
    cases this
    exact .inl ⟨rfl, rfl⟩
  | e :: es, es', h => by
    have h : (@Option.rec Bool (fun _ => Option (List (AV × AV))) none (fun b => @Bool.rec (fun _ => Option (List (AV × AV))) (@Option.rec (List (AV × AV)) (fun _ => Option (List (AV × AV))) none (fun l => some (e :: l)) (putE ek q v es)) (some ((q, v) :: es)) b) (eqEK ek q e.1)) = some es' := h
    obtain ⟨b, hb, h⟩ := orecO h
    have hf : findE ek q (e :: es) = (@Option.rec Bool (fun _ => Option (Option AV)) none (fun b => @Bool.rec (fun _ => Option (Option AV)) (findE ek q es) (some (some e.2)) b) (eqEK ek q e.1)) := rfl
    rw [hb] at hf
    cases b with
    | true =>
      cases h
      exact .inr ⟨0, e.2, hf, First.zero hb, rfl⟩
    | false =>
      obtain ⟨l, hl, h⟩ := orecO (show (@Option.rec (List (AV × AV)) (fun _ => Option (List (AV × AV))) none (fun l => some (e :: l)) (putE ek q v es)) = some es' from h)
      cases h
      have hf : findE ek q (e :: es) = findE ek q es := hf
      rcases putE_spec hl with ⟨h1, h2⟩ | ⟨j, u, h1, h2, h3⟩
      · exact .inl ⟨hf.trans h1, by rw [h2]; rfl⟩
      · exact .inr ⟨j + 1, u, hf.trans h1, First.succ hb h2, by rw [h3]; rfl⟩
theorem findE_none {ek : EK} {q : AV} : ∀ {es : List (AV × AV)}, findE ek q es = some none → ∀ e ∈ es, eqEK ek q e.1 = some false
  | [], _, e, he => by cases he
  | x :: es, h, e, he => by
    have h : (@Option.rec Bool (fun _ => Option (Option AV)) none (fun b => @Bool.rec (fun _ => Option (Option AV)) (findE ek q es) (some (some x.2)) b) (eqEK ek q x.1)) = some none := h
    obtain ⟨b, hb, h⟩ := orecO h
    cases b with
    | true => cases h
    | false =>
      rcases List.mem_cons.1 he with rfl | he
      · exact hb
      · exact findE_none (show findE ek q es = some none from h) e he
theorem goes_mu {E : Fns} {o : Oper} {d : Option Nat} {ek : EK} {m q x : X} (hc : cOp P o = some (.mu d ek m q x)) : Goes P E o (.mu d ek m q x) := by
  intro k A B n D h
  have e : (I.mu d ek m q x).run E k A B n D = stMu d ek m q x k A B n D := rfl
  rw [e] at h ⊢
  unfold stMu at h ⊢
  obtain ⟨mv, hm, e1⟩ := orec h
  rw [e1] at h ⊢
  obtain ⟨qv, hq, e2⟩ := orec h
  rw [e2] at h ⊢
  obtain ⟨v, hx, e3⟩ := orec h
  rw [e3] at h ⊢
  obtain ⟨B', hB, e4⟩ := orec h
  rw [e4]
  obtain ⟨rfl, t, kt, et, m', k', x', ho, hu, hk, hcm, hck, hcx⟩ := cOp_inv hc
  refine ⟨undefA, B', n, rfl, Nat.le_refl n, fun r w a hR ha hF K Q hK => ?_⟩
  obtain ⟨h1, h2⟩ := cX_eval hR.glob hcm hm ha.1
  obtain ⟨h3, h4⟩ := cX_eval hR.glob hck hq ha.2.1
  obtain ⟨h5, h6⟩ := cX_eval hR.glob hcx hx ha.2.2
  unfold muAt at hB
  split at hB
  · rename_i id
    split at hB
    · rename_i es hb
      obtain ⟨hkb, hB⟩ := brecO hB
      obtain ⟨es', hp, rfl⟩ := map_some hB
      obtain ⟨ent, clock, g1, g2a, g2b, gst⟩ := hR.map id es _ _ hb (isSome_blk h2)
      have g2 : Ents r ent.toList es := ⟨g2a, g2b⟩
      have hset : ∀ ob, (setObj (r.blk id) ob).run P w = .ok () { w with heap := w.heap.setIfInBounds (r.blk id) ob } := fun ob => by simp [setObj, Sem.run, g1]
      have hturn : ∀ (ent' : Array MapEntry) (clock' : Nat), Ents r ent'.toList es' → MapKept.Stamped ent' clock' → K (a.put o.dst undef) { w with heap := w.heap.setIfInBounds (r.blk id) (.map ent' clock') } := by
        intro ent' clock' he hst
        have hlt : r.blk id < w.heap.size := by
          rcases Nat.lt_or_ge (r.blk id) w.heap.size with h | h
          · exact h
          · rw [Array.getElem?_eq_none h] at g1; cases g1
        obtain ⟨t1, t2⟩ := rel_turn (n := n) (o' := .map es') hR hb (isSome_blk h2) (w' := { w with heap := w.heap.setIfInBounds (r.blk id) (.map ent' clock') }) (by simp) ⟨rfl, KeepK.one (g := r.blk id) (fun j _ hj => by simp [Array.getElem?_setIfInBounds_ne (Ne.symm hj)]) (fun cs ty fr e => by rw [g1] at e; cases e)⟩ rfl rfl (fun j hj => by simp [Array.getElem?_setIfInBounds_ne (Ne.symm hj)]) (fun m kn tp c e => by cases e) (fun es2 e => by
          cases e
          exact ⟨ent', clock', by simp [hlt], he.1, he.2, hst⟩)
        exact hK r _ t2 t1 trivial
      have hrun : ∃ ent' clock', Ents r ent'.toList es' ∧ MapKept.Stamped ent' clock' ∧ (Instr.mapUpdate t (.map (some (r.blk id))) (conc r qv) (conc r v)).run P w = .ok () { w with heap := w.heap.setIfInBounds (r.blk id) (.map ent' clock') } := by
        rcases putE_spec hp with ⟨f1, rfl⟩ | ⟨j, u, f1, f2, rfl⟩
        · obtain ⟨out, k1, k2⟩ := findKey_run (w := w) hk h4 g2 f1
          have : out = none := k2
          subst this
          refine ⟨ent.push { key := conc r qv, val := conc r v, born := clock }, clock + 1, ⟨by simp [g2.1], ?_⟩, MapKept.stamped_push gst (fun x hx => ?_), ?_⟩
          · intro e he
            rcases List.mem_append.1 he with he | he
            · exact g2.2 e he
            · simp at he; subst he; exact ⟨h4, h6⟩
          · have hm : (x.key, x.val) ∈ ent.toList.map (fun e => (e.key, e.val)) := List.mem_map_of_mem (f := fun e : MapEntry => (e.key, e.val)) hx
            rw [g2.1] at hm
            obtain ⟨e, he, e2⟩ := List.mem_map.1 hm
            injection e2 with e2
            rw [← e2]
            exact Ne.symm (key_false hk h4 (g2.2 e he).1 (findE_none f1 e he))
          · unfold Instr.mapUpdate
            rw [Sem.run_bind, run_underlying hu]
            simp only [Result.andThen_ok, Sem.run_bind, getObj_run g1, checkKey_run hk hkb]
            rw [k1]
            simp only [Result.andThen_ok]
            exact hset _
        · obtain ⟨out, k1, j', e', k2, k3, k4, k5, k6⟩ := findKey_run (w := w) hk h4 g2 f1
          have := First.eq k6 f2
          subst this
          subst k2
          have hjl : j' < ent.toList.length := (List.getElem?_eq_some_iff.1 k3).1
          have hjs : j' < ent.size := by simpa using hjl
          have hkey : ((ent[j']?).map (·.key)).getD (conc r qv) = conc r qv := by
            have : ent[j']? = some e' := by simpa using k3
            rw [this]; exact k4
          refine ⟨ent.modify j' fun e => { e with key := conc r qv, val := conc r v }, clock, ⟨?_, ?_⟩, MapKept.stamped_modify gst j' _ (fun e _ => rfl) (fun e _ he => ?_), ?_⟩
          · rw [List.map_set, ← g2.1, Array.toList_modify]
            apply List.ext_getElem?
            intro i
            simp only [List.getElem?_map, List.getElem?_modify, List.getElem?_set, List.length_map]
            by_cases e : j' = i
            · subst e
              simp [hjs]
            · simp [e]
          · intro e he
            rcases List.mem_or_eq_of_mem_set he with he | he
            · exact g2.2 e he
            · rw [he]; exact ⟨h4, h6⟩
          · have : ent[j']? = some e' := by simpa using k3
            rw [this] at he
            cases he
            exact k4.symm
          · unfold Instr.mapUpdate
            rw [Sem.run_bind, run_underlying hu]
            simp only [Result.andThen_ok, Sem.run_bind, getObj_run g1, checkKey_run hk hkb]
            rw [k1]
            have hstay : (Instr.keyThatStays (conc r qv) (conc r qv)).run P w = .ok (conc r qv) w := by
              have : Instr.sameBits 10000 (conc r qv) (conc r qv) = true := by
                obtain ⟨e2, q1, q2⟩ := f2.1
                exact (key_true hk h4 (g2.2 e2 (List.mem_of_getElem? q1)).1 q2).2
              simp [Instr.keyThatStays, this]
            simp only [Result.andThen_ok, Nat.zero_add, Sem.run_bind, hkey, hstay]
            exact hset _
      obtain ⟨ent', clock', e1, est, e2⟩ := hrun
      refine wp_u (s := Instr.mapUpdate t (a.eval m') (a.eval k') (a.eval x')) (by rcases ho with ho | ho <;> simp [execOp, ho]) ?_ (hturn ent' clock' e1 est)
      rw [h1, h3, h5]
      exact e2
    · cases hB
  · cases hB
end
end Go.Ev
end

section
namespace Go.Ev
open Go Go.RowKit
section
variable {P : Program} {r r' : Rho} {A : Tr AV} {a : Act} {w : World} {B : Tr AO} {n : Nat}

/-- append where there is no room. -/
theorem append_grow {t u ty e : TypeId} {i : TypeInfo} {z : Value} {td : TypeDesc} (ht : P.underlying t = some (.slice e)) (hu : P.underlying u = some td) (hi : P.info? e = some i) (hz : i.zero = some z)
    {base : Option Addr} {sLen sCap m : Nat} {X : Value} {old new : Array Value} (hX : (∀ k, td ≠ .int k) ∧ (Builtin.lenOf X).run P w = .ok m w ∧ (Builtin.firstCells i.size m X).run P w.drew = .ok new w.drew ∨ (∃ k kd, td = .int k ∧ X = .int kd (m : Int) ∧ new = Builtin.zeroCells z.cells m ∧ z.cells.size = i.size))
    (hold : (Builtin.firstCells i.size sLen (.slice base sLen sCap)).run P w.drew = .ok old w.drew) (hg : sCap < sLen + m) (hsmall : sLen + m ≤ 1000000) (hb : i.bytes ≤ 4096) :
    (Builtin.append_ #[t, u] ty #[.slice base sLen sCap, X]).run P w = .ok (.slice (some ⟨w.heap.size, 0, none⟩) (sLen + m) (grownCap w (sLen + m) sCap e))
        (w.drew.alloc (.cells (old ++ new ++ Builtin.zeroCells z.cells (grownCap w (sLen + m) sCap e - (sLen + m))) e)) := by
  have hn : ¬ (sLen + m ≤ sCap) := by omega
  have h63' : ¬ (9223372036854775807 < ((sLen : Int) + (m : Int))) := by omega
  have hfit : Builtin.nextslicecap (sLen + m) sCap * i.bytes ≤ 281474976710656 := growslice_fits hg (by
    have := Nat.mul_le_mul hsmall hb
    omega)
  have h48' : ¬ (281474976710656 < Builtin.nextslicecap (sLen + m) sCap * i.bytes) := by omega
  rcases hX with ⟨hint, hlen, hnew⟩ | ⟨k, kd, rfl, rfl, rfl, hzs⟩
  ·    simp [Builtin.append_, run_underlying ht, run_underlying hu, sizeOf, typeInfo, zeroValue, hi, hz, hlen, hn, h63', h48', Question.forced, hold, hnew, newRow, grownCap]
  · have hw : IntKind.i64.wrap (m : Int) = m := IntWalk.i64_in _ (by omega)
    have hlt : ¬ ((m : Int) < 0) := by omega
    have hby : ¬ (281474976710656 < (m : Int) * (i.bytes : Int)) := by
      have : m * i.bytes ≤ 1000000 * 4096 := Nat.mul_le_mul (by omega) hb
      have h9 : ((m * i.bytes : Nat) : Int) ≤ 4096000000 := by omega
      rw [Int.natCast_mul] at h9
      omega
    by_cases h0 : m * i.size = 0
    · have hz0 : Builtin.zeroCells z.cells m = #[] := by
        unfold Builtin.zeroCells
        rw [hzs, h0]; simp
      simp [Builtin.append_, run_underlying ht, run_underlying hu, sizeOf, typeInfo, zeroValue, hi, hz, asInt, asIntOf, hw, hlt, hby, hn, h63', h48', Question.forced, hold, newRow, grownCap, hz0]
    · simp [Builtin.append_, run_underlying ht, run_underlying hu, sizeOf, typeInfo, zeroValue, hi, hz, asInt, asIntOf, hw, hlt, hby, hn, h63', h48', Question.forced, hold, newRow, grownCap, h0]
/-- append where there is room. -/
theorem append_fits {t u ty e : TypeId} {i : TypeInfo} {z : Value} {td : TypeDesc} (ht : P.underlying t = some (.slice e)) (hu : P.underlying u = some td) (hi : P.info? e = some i) (hz : i.zero = some z)
    {base : Option Addr} {sLen sCap m : Nat} {X : Value} {new : Array Value} {w' : World} (hX : (∀ k, td ≠ .int k) ∧ (Builtin.lenOf X).run P w = .ok m w ∧ (Builtin.firstCells i.size m X).run P w = .ok new w ∨ (∃ k kd, td = .int k ∧ X = .int kd (m : Int) ∧ new = Builtin.zeroCells z.cells m ∧ z.cells.size = i.size))
    (hst : match base with
      | some a => (storeCells (a.add (sLen * i.size)) new.toList).run P w = .ok () w'
      | none => w' = w) (hg : sLen + m ≤ sCap) (hsmall : m ≤ 1000000) (hb : i.bytes ≤ 4096) :
    (Builtin.append_ #[t, u] ty #[.slice base sLen sCap, X]).run P w = .ok (.slice base (sLen + m) sCap) w' := by
  rcases hX with ⟨hint, hlen, hnew⟩ | ⟨k, kd, rfl, rfl, rfl, hzs⟩
  · cases base with
    | none => subst hst; simp [Builtin.append_, run_underlying ht, run_underlying hu, sizeOf, typeInfo, hi, hlen, hg, hnew]
    | some a => simp [Builtin.append_, run_underlying ht, run_underlying hu, sizeOf, typeInfo, hi, hlen, hg, hnew, hst]
  · have hw : IntKind.i64.wrap (m : Int) = m := IntWalk.i64_in _ (by omega)
    have hlt : ¬ ((m : Int) < 0) := by omega
    have hby : ¬ (281474976710656 < (m : Int) * (i.bytes : Int)) := by
      have : m * i.bytes ≤ 1000000 * 4096 := Nat.mul_le_mul (by omega) hb
      have h9 : ((m * i.bytes : Nat) : Int) ≤ 4096000000 := by omega
      rw [Int.natCast_mul] at h9
      omega
    by_cases h0 : m * i.size = 0
    · have hz0 : Builtin.zeroCells z.cells m = #[] := by
        unfold Builtin.zeroCells
        rw [hzs, h0]; simp
      rw [hz0] at hst
      cases base with
      | none => subst hst; simp [Builtin.append_, run_underlying ht, run_underlying hu, sizeOf, typeInfo, hi, asInt, asIntOf, hw, hlt, hby, hg, h0]
      | some a => simp at hst; simp [Builtin.append_, run_underlying ht, run_underlying hu, sizeOf, typeInfo, hi, asInt, asIntOf, hw, hlt, hby, hg, h0, hst]
    · cases base with
      | none => subst hst; simp [Builtin.append_, run_underlying ht, run_underlying hu, sizeOf, typeInfo, zeroValue, hi, hz, asInt, asIntOf, hw, hlt, hby, hg]
      | some a => simp [Builtin.append_, run_underlying ht, run_underlying hu, sizeOf, typeInfo, zeroValue, hi, hz, asInt, asIntOf, hw, hlt, hby, hg, h0, hst]
theorem grownCap_ge {need old : Nat} {e : TypeId} : need ≤ grownCap w need old e := by
  unfold grownCap Question.cut
  exact Nat.le_add_right _ _
/-- What an append leaves, in every world. -/
theorem appTo_run {t u ty e : TypeId} {i : TypeInfo} {z : Value} {td : TypeDesc} (ht : P.underlying t = some (.slice e)) (hu : P.underlying u = some td) (hi : P.info? e = some i) (hz : i.zero = some z) (hzs : z.cells.size = i.size) (hb : i.bytes ≤ 4096)
    (hR : Rel P r B.get w) {s v new : AV} {m : Nat} {X : Value} {B' : Tr AO} {n' : Nat} (hs : ok r s) (hnew : ok r new) (hnf : flat new) (hnl : new.len = m * i.size) (hsmall : m + lenOf s ≤ 1000000) (hF : Fresh r n n')
    (hX : (∀ k, td ≠ .int k) ∧ (Builtin.lenOf X).run P w = .ok m w ∧ ((Builtin.firstCells i.size m X).run P w = .ok (concL r new).toArray w ∧ (Builtin.firstCells i.size m X).run P w.drew = .ok (concL r new).toArray w.drew) ∨ (∃ k kd, td = .int k ∧ X = .int kd (m : Int) ∧ (concL r new).toArray = Builtin.zeroCells z.cells m))
    (h : appTo i.size B n new m s = .ok v B' n') : n ≤ n' ∧ ∃ r' w', (Builtin.append_ #[t, u] ty #[conc r s, X]).run P w = .ok (conc r' v) w' ∧ Stp r B.get n w r' B'.get n' w' ∧ Rel P r' B'.get w' ∧ ok r' v := by
  have hX0 : (∀ k, td ≠ .int k) ∧ (Builtin.lenOf X).run P w = .ok m w ∧ (Builtin.firstCells i.size m X).run P w = .ok (concL r new).toArray w ∨ (∃ k kd, td = .int k ∧ X = .int kd (m : Int) ∧ (concL r new).toArray = Builtin.zeroCells z.cells m ∧ z.cells.size = i.size) := by
    rcases hX with ⟨h1, h2, h3⟩ | ⟨k, kd, h1, h2, h3⟩
    · exact .inl ⟨h1, h2, h3.1⟩
    · exact .inr ⟨k, kd, h1, h2, h3, hzs⟩
  have hX1 : (∀ k, td ≠ .int k) ∧ (Builtin.lenOf X).run P w = .ok m w ∧ (Builtin.firstCells i.size m X).run P w.drew = .ok (concL r new).toArray w.drew ∨ (∃ k kd, td = .int k ∧ X = .int kd (m : Int) ∧ (concL r new).toArray = Builtin.zeroCells z.cells m ∧ z.cells.size = i.size) := by
    rcases hX with ⟨h1, h2, h3⟩ | ⟨k, kd, h1, h2, h3⟩
    · exact .inl ⟨h1, h2, h3.2⟩
    · exact .inr ⟨k, kd, h1, h2, h3, hzs⟩
  -- a new row
  have grow : ∀ (base : Option Addr) (sLen sCap : Nat) (old : AV), ok r old → flat old → old.len = sLen * i.size → (Builtin.firstCells i.size sLen (.slice base sLen sCap)).run P w.drew = .ok (concL r old).toArray w.drew → sCap < sLen + m → sLen + m ≤ 1000000 →
      r n = none → ∃ r' w', (Builtin.append_ #[t, u] ty #[.slice base sLen sCap, X]).run P w = .ok (conc r' (.su n 0 (sLen + m) 0)) w' ∧
        Stp r B.get n w r' (B.set n (.row i.size false ((sLen + m) * i.size) (setCells (old.app new) .nil 0))).get (n + 1) w' ∧ Rel P r' (B.set n (.row i.size false ((sLen + m) * i.size) (setCells (old.app new) .nil 0))).get w' ∧ ok r' (.su n 0 (sLen + m) 0) := by
    intro base sLen sCap old ho hof hol hold hg hsm hn
    have hrun := append_grow (ty := ty) ht hu hi hz hX1 hold hg hsm hb
    have hcap := grownCap_ge (w := w) (need := sLen + m) (old := sCap) (e := e)
    have hlen : (concL r (old.app new)).length = (sLen + m) * i.size := by rw [concL_app, List.length_append, len_concL, len_concL, hol, hnl, Nat.add_mul]
    obtain ⟨h1, h2⟩ := rel_row (n := n) (w := w.drew) (B := B) (c := old.app new) (m := i.size) (kn := false) (K := grownCap w (sLen + m) sCap e) (tp := (sLen + m) * i.size) (e := e) hR.drew hn (ok_app hnew _ ho) (flat_app hnf _ hof)
      (cs := (concL r old).toArray ++ (concL r new).toArray ++ Builtin.zeroCells z.cells (grownCap w (sLen + m) sCap e - (sLen + m)))
      (fun j v hv => by
        have h3 := nth_concL (r := r) hv
        have hj : j < (concL r (old.app new)).length := (List.getElem?_eq_some_iff.1 h3).1
        rw [Array.getElem?_append_left (by rw [concL_app] at hj; simpa using hj)]
        rw [concL_app] at h3
        rw [← h3]
        simp)
      (by
        have hzc : (Builtin.zeroCells z.cells (grownCap w (sLen + m) sCap e - (sLen + m))).size = (grownCap w (sLen + m) sCap e - (sLen + m)) * i.size := by simp [Builtin.zeroCells, hzs]
        rw [concL_app, List.length_append] at hlen
        simp only [Array.size_append, List.size_toArray, hzc, cond_false]
        rw [hlen, ← Nat.add_mul]
        congr 1
        omega) (fun _ => by rw [← len_concL (r := r), hlen]; exact Nat.le_refl _)
    refine ⟨_, _, ?_, ⟨h2.os, h2.tape, h2.output, h2.size, h2.ext, h2.dom, h2.keep, h2.new, h2.le⟩, h1, ?_⟩
    · rw [hrun]
      rw [conc_su, (upd_blk).1, (upd_blk).2.1]
      rfl
    · refine ⟨(upd_blk).2.2, ?_⟩
      rw [(upd_blk).2.1]
      simpa using hcap
  unfold appTo at h
  split at h
  · cases em : Nat.beq m 0 with
    | true =>
      rw [em] at h
      cases h
      have hm : m = 0 := by simpa using em
      subst hm
      refine ⟨Nat.le_refl _, r, w, ?_, Stp.refl _ _ _ _, hR, trivial⟩
      have := append_fits (ty := ty) (base := none) (sLen := 0) (sCap := 0) (w' := w) ht hu hi hz hX0 rfl (by omega) (by omega) hb
      simpa using this
    | false =>
      rw [em] at h
      cases h
      have hm : m ≠ 0 := by intro h; rw [h] at em; cases em
      obtain ⟨r', w', g1, g2, g3, g4⟩ := grow none 0 0 .nil trivial trivial (by simp) (by simp [Builtin.firstCells]) (by omega) (by simp [lenOf] at hsmall; omega) (hF n (Nat.le_refl _) (Nat.lt_succ_self _))
      simp only [Nat.zero_add] at g1 g2 g3 g4
      exact ⟨Nat.le_succ n, r', w', g1, g2, g3, g4⟩
  · rename_i id off len cap
    cases eb : B.get id with
    | none => rw [eb] at h; cases h
    | some ob =>
      rw [eb] at h
      have h : appSl i.size B n new m id off len cap ob = .ok v B' n' := h
      have hid := isSome_blk hs.1
      cases ob with
      | map es => cases h
      | row q kn tp c =>
        have h : (@Bool.rec (fun _ => FR) (@Option.rec AV (fun _ => FR) .bad (fun old => newRow_ i.size B n (Nat.add len m) (old.app new)) (getCells c (Nat.mul len i.size) off))
          (@Option.rec AO (fun _ => FR) .bad (fun o => .ok (.sl id off (Nat.add len m) cap) (B.set id o) n) (rowSet (.row q kn tp c) (Nat.add off (Nat.mul len i.size)) new)) (Nat.ble (Nat.add len m) cap)) = .ok v B' n' := h
        cases ec : Nat.ble (Nat.add len m) cap with
        | true =>
          rw [ec] at h
          have hle : len + m ≤ cap := Nat.le_of_ble_eq_true ec
          cases eo : rowSet (.row q kn tp c) (off + len * i.size) new with
          | none =>
            have h : (@Option.rec AO (fun _ => FR) .bad (fun o => .ok (.sl id off (Nat.add len m) cap) (B.set id o) n) (rowSet (.row q kn tp c) (off + len * i.size) new)) = .ok v B' n' := h
            rw [eo] at h; cases h
          | some ob' =>
            have h : (@Option.rec AO (fun _ => FR) .bad (fun o => .ok (.sl id off (Nat.add len m) cap) (B.set id o) n) (rowSet (.row q kn tp c) (off + len * i.size) new)) = .ok v B' n' := h
            rw [eo] at h; cases h
            obtain ⟨g1, g2, g3⟩ := rowSet_run (P := P) (n := n) hR eb hid eo hnew hnf
            refine ⟨Nat.le_refl _, r, _, ?_, g3, g2, hs.1, hle⟩
            exact append_fits (ty := ty) (base := some ⟨r.blk id, off, none⟩) ht hu hi hz hX0 (by simp only [addr_add0]; exact g1) hle (by omega) hb
        | false =>
          rw [ec] at h
          have hgt : cap < len + m := by
            rcases Nat.lt_or_ge cap (len + m) with g | g
            · exact g
            · have : Nat.ble (Nat.add len m) cap = true := Nat.ble_eq_true_of_le g
              rw [this] at ec; cases ec
          cases eg : getCells c (len * i.size) off with
          | none =>
            have h : (@Option.rec AV (fun _ => FR) .bad (fun old => newRow_ i.size B n (Nat.add len m) (old.app new)) (getCells c (len * i.size) off)) = .ok v B' n' := h
            rw [eg] at h; cases h
          | some old =>
            have h : (@Option.rec AV (fun _ => FR) .bad (fun old => newRow_ i.size B n (Nat.add len m) (old.app new)) (getCells c (len * i.size) off)) = .ok v B' n' := h
            rw [eg] at h; cases h
            obtain ⟨g1, g2, g3⟩ := (hR.drew.row id q kn tp c _ _ eb hid).load (P := P) eg
            obtain ⟨r', w', k1, k2, k3, k4⟩ := grow (some ⟨r.blk id, off, none⟩) len cap old g2 g3 (getCells_some eg).1 (by simpa [Builtin.firstCells] using g1) hgt (by simp [lenOf] at hsmall; omega) (hF n (Nat.le_refl _) (Nat.lt_succ_self _))
            exact ⟨Nat.le_succ n, r', w', k1, k2, k3, k4⟩
  · rename_i id off len less
    have hid := isSome_blk hs.1
    have hcap := hs.2
    cases em : Nat.beq m 0 with
    | true =>
      rw [em] at h
      cases h
      have hm : m = 0 := by simpa using em
      subst hm
      have hnil : concL r new = [] := List.eq_nil_of_length_eq_zero (by rw [len_concL, hnl]; simp)
      refine ⟨Nat.le_refl _, r, w, ?_, Stp.refl _ _ _ _, hR, hs⟩
      have := append_fits (ty := ty) (base := some ⟨r.blk id, off, none⟩) (sLen := len) (sCap := r.cap id - less) (w' := w) ht hu hi hz hX0 (by rw [hnil]; simp [storeCells]) (by omega) (by omega) hb
      simpa using this
    | false =>
      rw [em] at h
      have hm : m ≠ 0 := by intro h; rw [h] at em; cases em
      cases ez : (and (Nat.beq off 0) (Nat.beq less 0)) with
      | false =>
        have h : (@Bool.rec (fun _ => FR) .bad (@Option.rec AO (fun _ => FR) .bad (appSu i.size B n new m id len) (B.get id)) (and (Nat.beq off 0) (Nat.beq less 0))) = .ok v B' n' := h
        rw [ez] at h; cases h
      | true =>
        have h : (@Bool.rec (fun _ => FR) .bad (@Option.rec AO (fun _ => FR) .bad (appSu i.size B n new m id len) (B.get id)) (and (Nat.beq off 0) (Nat.beq less 0))) = .ok v B' n' := h
        rw [ez] at h
        simp only [Bool.and_eq_true, Nat.beq_eq] at ez
        obtain ⟨rfl, rfl⟩ := ez
        cases eb : B.get id with
        | none =>
          have h : (@Option.rec AO (fun _ => FR) .bad (appSu i.size B n new m id len) (B.get id)) = .ok v B' n' := h
          rw [eb] at h; cases h
        | some ob =>
          have h : (@Option.rec AO (fun _ => FR) .bad (appSu i.size B n new m id len) (B.get id)) = .ok v B' n' := h
          rw [eb] at h
          have hh : appSu i.size B n new m id len ob = .ok v B' n' := h
          clear h
          unfold appSu at hh
          split at hh
          · rename_i q tp c
            have h := hh
            clear hh
            cases eq : Nat.beq q i.size with
            | false => rw [eq] at h; cases h
            | true =>
              rw [eq] at h
              have hq : q = i.size := by simpa using eq
              subst hq
              cases eg : getCells c (len * i.size) 0 with
              | none =>
                have h : (@Option.rec AV (fun _ => FR) .bad (fun old => .ok (.su n 0 (Nat.add len m) 0) ((B.del id).set n (.row i.size false (Nat.mul (Nat.add len m) i.size) (@Bool.rec (fun _ => Tr AV) (setCells (old.app new) .nil 0) (setCells new c (Nat.mul len i.size)) (Nat.ble tp (Nat.mul len i.size))))) (Nat.succ n)) (getCells c (len * i.size) 0)) = .ok v B' n' := h
                rw [eg] at h; cases h
              | some old =>
                have h : (@Option.rec AV (fun _ => FR) .bad (fun old => .ok (.su n 0 (Nat.add len m) 0) ((B.del id).set n (.row i.size false (Nat.mul (Nat.add len m) i.size) (@Bool.rec (fun _ => Tr AV) (setCells (old.app new) .nil 0) (setCells new c (Nat.mul len i.size)) (Nat.ble tp (Nat.mul len i.size))))) (Nat.succ n)) (getCells c (len * i.size) 0)) = .ok v B' n' := h
                rw [eg] at h
                have hn := hF n (Nat.le_refl _) (by have : n' = n + 1 := by cases h; rfl
                                                    omega)
                have hrow := hR.row id i.size false tp c _ _ eb hid
                obtain ⟨g1, g2⟩ := getCells_some eg
                obtain ⟨_, g3, g4⟩ := hrow.load (P := P) eg
                have hall : ∀ j u, (@Bool.rec (fun _ => Tr AV) (setCells (old.app new) .nil 0) (setCells new c (Nat.mul len i.size)) (Nat.ble tp (Nat.mul len i.size))).get j = some u → AV.nth j (old.app new) = some u := by
                  intro j u hj
                  cases et : Nat.ble tp (Nat.mul len i.size) with
                  | false =>
                    rw [et] at hj
                    rcases setCells_get hj with ⟨k, _, rfl, h2⟩ | ⟨h2, _⟩
                    · rw [Nat.zero_add]; exact h2
                    · cases h2
                  | true =>
                    rw [et] at hj
                    have htp : tp ≤ len * i.size := Nat.le_of_ble_eq_true et
                    rcases setCells_get hj with ⟨k, _, rfl, h2⟩ | ⟨h2, _⟩
                    · have e9 : Nat.mul len i.size = old.len := g1.symm
                      rw [e9, nth_app_right]; exact h2
                    · obtain ⟨cs, ty', fr, _, _, _, h4⟩ := hrow
                      have hlt := (h4 j u h2).2.2.2 rfl
                      obtain ⟨u', h5, h6⟩ := g2 j (by omega)
                      rw [Nat.zero_add, h2] at h5
                      cases h5
                      rw [nth_app_left (by omega)]
                      exact h6
                have hao := ok_app hnew _ g3
                have haf := flat_app hnf _ g4
                have hal : (old.app new).len = (len + m) * i.size := by rw [← len_concL (r := r), concL_app, List.length_append, len_concL, len_concL, g1, hnl, Nat.add_mul]
                have he : ∀ p, Ext r (upd r n p) := fun p => upd_ext hn
                have h : FR.ok (.su n 0 (Nat.add len m) 0) ((B.del id).set n (.row i.size false (Nat.mul (Nat.add len m) i.size) (@Bool.rec (fun _ => Tr AV) (setCells (old.app new) .nil 0) (setCells new c (Nat.mul len i.size)) (Nat.ble tp (Nat.mul len i.size))))) (Nat.succ n) = .ok v B' n' := h
                generalize (@Bool.rec (fun _ => Tr AV) (setCells (old.app new) .nil 0) (setCells new c (Nat.mul len i.size)) (Nat.ble tp (Nat.mul len i.size))) = c' at h hall
                cases h
                rcases Nat.lt_or_ge (r.cap id) (len + m) with hlt | hge
                · -- a new block
                  have hold : (Builtin.firstCells i.size len (.slice (some ⟨r.blk id, 0, none⟩) len (r.cap id - 0))).run P w.drew = .ok (concL r old).toArray w.drew := by
                    obtain ⟨k1, _, _⟩ := (hR.drew.row id i.size false tp c _ _ eb hid).load (P := P) eg
                    simpa [Builtin.firstCells] using k1
                  have hrun := append_grow (ty := ty) ht hu hi hz hX1 hold (by omega) (by simp [lenOf] at hsmall; omega) hb
                  have hcapg := grownCap_ge (w := w) (need := len + m) (old := r.cap id - 0) (e := e)
                  have hRd : Rel P r (B.del id).get w.drew := hR.drew.sub fun j o hj => (Tr.get_del hj).2
                  obtain ⟨h1, h2⟩ := rel_new (n := n) (o := .row i.size false (Nat.mul (Nat.add len m) i.size) c') (ob := .cells ((concL r old).toArray ++ (concL r new).toArray ++ Builtin.zeroCells z.cells (grownCap w (len + m) (r.cap id - 0) e - (len + m))) e) (K := grownCap w (len + m) (r.cap id - 0) e) hRd hn
                    (fun m' kn' tp' c2 ec => by
                      cases ec
                      refine ⟨_, e, (0, 0), Go.heap_alloc_new w.drew _, fun j _ h => by omega, ?_, fun j u hj => ?_⟩
                      · have hzc : (Builtin.zeroCells z.cells (grownCap w (len + m) (r.cap id - 0) e - (len + m))).size = (grownCap w (len + m) (r.cap id - 0) e - (len + m)) * i.size := by simp [Builtin.zeroCells, hzs]
                        simp only [Array.size_append, List.size_toArray, hzc, cond_false, len_concL, g1, hnl]
                        rw [← Nat.add_mul, ← Nat.add_mul]
                        congr 1
                        omega
                      · have hj' := hall j u hj
                        have h3 := nth_concL (r := r) hj'
                        have h4 := ok_nth hj' hao
                        have hjl := nth_lt hj'
                        refine ⟨ok_ext (he _) h4, flat_nth haf hj', ?_, fun _ => by rw [hal] at hjl; exact hjl⟩
                        rw [conc_ext (he _) h4, Array.getElem?_append_left (by simp [len_concL, g1, hnl]; rw [hal, Nat.add_mul] at hjl; exact hjl)]
                        rw [concL_app] at h3
                        rw [← h3]
                        simp)
                    (fun es ec => by cases ec)
                  have h2' := h2.wide (H'' := B.get) fun j o hj => (Tr.get_del hj).2
                  refine ⟨Nat.le_succ n, _, _, ?_, ⟨h2'.os, h2'.tape, h2'.output, h2'.size, h2'.ext, h2'.dom, h2'.keep, h2'.new, h2'.le⟩, h1, (upd_blk).2.2, ?_⟩
                  · rw [conc_su, hrun, conc_su, (upd_blk).1, (upd_blk).2.1]
                    rfl
                  · rw [(upd_blk).2.1]; simpa using hcapg
                · -- in place
                  obtain ⟨cs, ty', fr, q1, q2, q3, q4⟩ := hrow
                  have hcs : cs.size = r.cap id * i.size := q3
                  have hroom : len * i.size + m * i.size ≤ cs.size := by rw [hcs, ← Nat.add_mul]; exact Nat.mul_le_mul_right _ hge
                  have hnl' : (concL r new).length = m * i.size := by rw [len_concL, hnl]
                  have hcell : ∀ j, j < (concL r new).length → (w.cell? ⟨r.blk id, len * i.size + j, none⟩).isSome = true := fun j hj => by
                    rw [hnl'] at hj
                    simp only [World.cell?, q1]
                    have : len * i.size + j < cs.size := by omega
                    simp [this]
                  have hfrz : ∀ j, j < (concL r new).length → w.frozen? ⟨r.blk id, len * i.size + j, none⟩ = false := fun j hj => by
                    rw [hnl'] at hj
                    simp only [World.frozen?, q1]
                    rw [← Bool.not_eq_true, Bool.and_eq_true, decide_eq_true_eq, decide_eq_true_eq]
                    exact q2 _ (by omega)
                  have hst := run_storeCells_cells (P := P) (r.blk id) (len * i.size) (concL r new) 0 w (by simpa using hcell) (by simpa using hfrz) (flat_one hnf)
                  obtain ⟨f1, f2, f3, f4, f5⟩ := setCells_frame (r.blk id) (concL r new) (len * i.size) w
                  obtain ⟨cs', k1, k2, k3, k4⟩ := heap_setCells (r.blk id) (concL r new) (len * i.size) w cs ty' fr q1 (by rw [hnl']; exact hroom)
                  obtain ⟨h1, h2⟩ := rel_move (n := n) (o' := .row i.size false (Nat.mul (Nat.add len m) i.size) c') hR hn eb hid (w' := w.setCells (r.blk id) (len * i.size) (concL r new)) f1 ⟨f2, keepK_setCells _ _ _ _⟩ f3 f4 f5
                    (fun m' kn' tp' c2 ec => by
                      cases ec
                      refine ⟨cs', ty', fr, k1, by rw [k2]; exact q2, by rw [k2]; exact q3, fun j u hj => ?_⟩
                      have hj' := hall j u hj
                      have h3 := nth_concL (r := r) hj'
                      have h4 := ok_nth hj' hao
                      have hjl := nth_lt hj'
                      refine ⟨ok_ext (he _) h4, flat_nth haf hj', ?_, fun _ => by rw [hal] at hjl; exact hjl⟩
                      rw [conc_ext (he _) h4]
                      rw [concL_app] at h3
                      rcases Nat.lt_or_ge j (len * i.size) with hjlt | hjge
                      · rw [k4 j (.inl hjlt)]
                        obtain ⟨u', g5, g6⟩ := g2 j hjlt
                        rw [Nat.zero_add] at g5
                        rw [nth_app_left (by omega), g6] at hj'
                        cases hj'
                        exact (q4 j u g5).2.2.1
                      · obtain ⟨j', rfl⟩ : ∃ j', j = len * i.size + j' := ⟨j - len * i.size, by omega⟩
                        rw [hal, Nat.add_mul] at hjl
                        rw [k3 j' (by rw [hnl']; omega)]
                        rw [List.getElem?_append_right (by rw [len_concL, g1]; omega), len_concL, g1] at h3
                        rw [← h3]
                        congr 1
                        omega)
                    (fun es ec => by cases ec)
                  refine ⟨Nat.le_succ n, _, _, ?_, h2, h1, (upd_blk).2.2, ?_⟩
                  · rw [conc_su, conc_su, (upd_blk).1, (upd_blk).2.1]
                    exact append_fits (ty := ty) (base := some ⟨r.blk id, 0, none⟩) ht hu hi hz hX0 (by simp only [addr_add0, Nat.zero_add]; simpa using hst) (by omega) (by omega) hb
                  · rw [(upd_blk).2.1]; simpa using hge
          · cases hh
  · cases h
theorem frec {x : FR} {f : AV → Tr AO → Nat → Res} (h : (@FR.rec (fun _ => Res) f .bad x) ≠ .bad) : ∃ v B n, x = .ok v B n ∧ (@FR.rec (fun _ => Res) f .bad x) = f v B n := by
  cases x with
  | bad => exact absurd rfl h
  | ok v B n => exact ⟨v, B, n, rfl, rfl⟩
theorem lenAny_few {m : Nat} {s : AV} (h : few m s = true) : m + lenOf s ≤ 1000000 := Nat.le_of_ble_eq_true h
theorem light_bytes {e : Nat} {i : TypeInfo} (h : lightB P e = true) (hi : P.info? e = some i) : i.bytes ≤ 4096 := by
  unfold lightB at h
  rw [hi] at h
  exact Nat.le_of_ble_eq_true h
theorem appTo_le {size m n n' : Nat} {new s v : AV} {B B' : Tr AO} (hap : appTo size B n new m s = .ok v B' n') : n ≤ n' := by
  unfold appTo at hap
  split at hap
  · cases em : Nat.beq m 0 <;> rw [em] at hap <;> cases hap
    · exact Nat.le_succ n
    · exact Nat.le_refl n
  · rename_i id off len cap
    cases eb : B.get id with
    | none => rw [eb] at hap; cases hap
    | some ob =>
      rw [eb] at hap
      cases ob with
      | map => cases hap
      | row q kn tp c =>
        have hap : (@Bool.rec (fun _ => FR) (@Option.rec AV (fun _ => FR) .bad (fun old => newRow_ size B n (Nat.add len m) (old.app new)) (getCells c (Nat.mul len size) off))
          (@Option.rec AO (fun _ => FR) .bad (fun o => .ok (.sl id off (Nat.add len m) cap) (B.set id o) n) (rowSet (.row q kn tp c) (Nat.add off (Nat.mul len size)) new)) (Nat.ble (Nat.add len m) cap)) = .ok v B' n' := hap
        cases ec : Nat.ble (Nat.add len m) cap with
        | true =>
          rw [ec] at hap
          have hap : (@Option.rec AO (fun _ => FR) .bad (fun o => .ok (.sl id off (Nat.add len m) cap) (B.set id o) n) (rowSet (.row q kn tp c) (Nat.add off (Nat.mul len size)) new)) = .ok v B' n' := hap
          cases eo : rowSet (.row q kn tp c) (Nat.add off (Nat.mul len size)) new <;> rw [eo] at hap <;> cases hap
          exact Nat.le_refl n
        | false =>
          rw [ec] at hap
          have hap : (@Option.rec AV (fun _ => FR) .bad (fun old => newRow_ size B n (Nat.add len m) (old.app new)) (getCells c (Nat.mul len size) off)) = .ok v B' n' := hap
          cases eo : getCells c (Nat.mul len size) off <;> rw [eo] at hap <;> cases hap
          exact Nat.le_succ n
  · rename_i id off len less
    have hap : (@Bool.rec (fun _ => FR) (@Bool.rec (fun _ => FR) .bad (@Option.rec AO (fun _ => FR) .bad (appSu size B n new m id len) (B.get id)) (and (Nat.beq off 0) (Nat.beq less 0))) (.ok (.su id off len less) B n) (Nat.beq m 0)) = .ok v B' n' := hap
    cases em : Nat.beq m 0 with
    | true => rw [em] at hap; cases hap; exact Nat.le_refl n
    | false =>
      rw [em] at hap
      have hap : (@Bool.rec (fun _ => FR) .bad (@Option.rec AO (fun _ => FR) .bad (appSu size B n new m id len) (B.get id)) (and (Nat.beq off 0) (Nat.beq less 0))) = .ok v B' n' := hap
      cases ez : (and (Nat.beq off 0) (Nat.beq less 0)) with
      | false => rw [ez] at hap; cases hap
      | true =>
        rw [ez] at hap
        have hap : (@Option.rec AO (fun _ => FR) .bad (appSu size B n new m id len) (B.get id)) = .ok v B' n' := hap
        cases eb : B.get id with
        | none => rw [eb] at hap; cases hap
        | some ob =>
          rw [eb] at hap
          have hap : appSu size B n new m id len ob = .ok v B' n' := hap
          cases ob with
          | map => cases hap
          | row q kn tp c =>
            cases kn with
            | true => cases hap
            | false =>
              have hap : (@Bool.rec (fun _ => FR) .bad (@Option.rec AV (fun _ => FR) .bad (fun old => .ok (.su n 0 (Nat.add len m) 0) ((B.del id).set n (.row size false (Nat.mul (Nat.add len m) size) (@Bool.rec (fun _ => Tr AV) (setCells (old.app new) .nil 0) (setCells new c (Nat.mul len size)) (Nat.ble tp (Nat.mul len size))))) (Nat.succ n)) (getCells c (Nat.mul len size) 0)) (Nat.beq q size)) = .ok v B' n' := hap
              cases eq : Nat.beq q size with
              | false => rw [eq] at hap; cases hap
              | true =>
                rw [eq] at hap
                have hap : (@Option.rec AV (fun _ => FR) .bad (fun old => .ok (.su n 0 (Nat.add len m) 0) ((B.del id).set n (.row size false (Nat.mul (Nat.add len m) size) (@Bool.rec (fun _ => Tr AV) (setCells (old.app new) .nil 0) (setCells new c (Nat.mul len size)) (Nat.ble tp (Nat.mul len size))))) (Nat.succ n)) (getCells c (Nat.mul len size) 0)) = .ok v B' n' := hap
                cases eo : getCells c (Nat.mul len size) 0 <;> rw [eo] at hap <;> cases hap
                exact Nat.le_succ n
  · cases hap
theorem goes_app {E : Fns} {o : Oper} {d : Option Nat} {size : Nat} {x y : X} (hc : cOp P o = some (.app d size x y)) : Goes P E o (.app d size x y) := by
  intro k A B n D h
  have e : (I.app d size x y).run E k A B n D = stApp d size x y k A B n D := rfl
  rw [e] at h ⊢
  unfold stApp at h ⊢
  obtain ⟨s, hx, e1⟩ := orec h
  rw [e1] at h ⊢
  obtain ⟨z, hy, e2⟩ := orec h
  rw [e2] at h ⊢
  obtain ⟨new, hn, e3⟩ := orec h
  rw [e3] at h ⊢
  obtain ⟨hf, e4⟩ := brec h
  rw [e4] at h ⊢
  obtain ⟨v, B', n', hap, e5⟩ := frec h
  rw [e5]
  obtain ⟨rfl, t, u, et, td, x', y', zz, ho, hu, hv, hint, hcx, hcy, hsz, hz, hl, hzl, hpos⟩ := cOp_inv hc
  obtain ⟨i, hi, his, _⟩ := info_size hsz
  obtain ⟨i', zv, hi', hz', rfl⟩ := zero_info hz (fun _ => none)
  rw [hi] at hi'; cases hi'
  subst his
  have hle := appTo_le hap
  refine ⟨v, B', n', rfl, hle, fun r w a hR ha hF K Q hK => ?_⟩
  obtain ⟨h1, h2⟩ := cX_eval hR.glob hcx hx ha.1
  obtain ⟨h3, h4⟩ := cX_eval hR.glob hcy hy ha.2
  obtain ⟨g1, g2, g3, g4, g5⟩ := cellsOf_run (P := P) hR h4 hn
  obtain ⟨g1', _, _, _, _⟩ := cellsOf_run (P := P) hR.drew h4 hn
  obtain ⟨_, h5, h6⟩ := zeroB_run (w := w) hz (fun _ => none)
  obtain ⟨_, r', w', k1, k2, k3, k4⟩ := appTo_run (ty := o.type) hu hv hi hz' (by rw [← len_cells, hzl]) (light_bytes hl hi) hR h2 g3 g4 g5 (lenAny_few hf) hF (.inl ⟨hint, g2, g1, g1'⟩) hap
  refine wp_v (s := Builtin.append_ #[t, u] o.type #[a.eval x', a.eval y']) (by simp [execOp, ho, resolve, invoke, builtin]) ?_ (hK r' w' k2 k3 k4)
  rw [h1, h3]
  exact k1
theorem goes_appz {E : Fns} {o : Oper} {d : Option Nat} {size : Nat} {z : AV} {x y : X} (hc : cOp P o = some (.appz d size z x y)) : Goes P E o (.appz d size z x y) := by
  intro k A B n D h
  have e : (I.appz d size z x y).run E k A B n D = stAppz d size z x y k A B n D := rfl
  rw [e] at h ⊢
  unfold stAppz at h ⊢
  obtain ⟨s, hx, e1⟩ := orec h
  rw [e1] at h ⊢
  obtain ⟨m, hm, e2⟩ := orec h
  rw [e2] at h ⊢
  obtain ⟨hf, e4⟩ := brec h
  rw [e4] at h ⊢
  obtain ⟨v, B', n', hap, e5⟩ := frec h
  rw [e5]
  obtain ⟨rfl, t, u, et, kd, x', y', ho, hu, hv, hcx, hcy, hsz, hz, hl, hzl, hpos⟩ := cOp_inv hc
  obtain ⟨i, hi, his, _⟩ := info_size hsz
  have hle := appTo_le hap
  subst his
  refine ⟨v, B', n', rfl, hle, fun r w a hR ha hF K Q hK => ?_⟩
  obtain ⟨i', zv, hi', hz', rfl⟩ := zero_info hz r
  rw [hi] at hi'; cases hi'
  obtain ⟨h1, h2⟩ := cX_eval hR.glob hcx hx ha.1
  cases hy : y.ev A with
  | none => rw [hy] at hm; cases hm
  | some yv =>
    rw [hy] at hm
    obtain ⟨kk, rfl⟩ := natOf_some hm
    obtain ⟨h3, _⟩ := cX_eval hR.glob hcy hy ha.2
    obtain ⟨_, h5, h6⟩ := zeroB_run (w := w) hz r
    obtain ⟨g1, g2, g3, g4⟩ := getElem_repCells (r := r) z.cells m
    have hzs : (conc r z).cells.size = i.size := by rw [← len_cells, hzl]
    have hzz : (concL r (repCells z.cells m)).toArray = Builtin.zeroCells (conc r z).cells m := by
      have hzc : (concL r z.cells).length = i.size := by rw [len_concL, hzl]
      have ec : (conc r z).cells = (concL r z.cells).toArray := by rw [concL_cells]
      rw [g4, ← rep_range (by omega), ec]
      unfold Builtin.zeroCells
      simp
    obtain ⟨_, r', w', k1, k2, k3, k4⟩ := appTo_run (ty := o.type) hu hv hi hz' hzs (light_bytes hl hi) hR h2 (g2 (ok_cells h5)) (g3 (flat_cells h5 h6)) (by rw [g1, hzl]) (lenAny_few hf) hF (.inr ⟨kd, kk, rfl, rfl, hzz⟩) hap
    refine wp_v (s := Builtin.append_ #[t, u] o.type #[a.eval x', a.eval y']) (by simp [execOp, ho, resolve, invoke, builtin]) ?_ (hK r' w' k2 k3 k4)
    rw [h1, h3]
    exact k1
end
end Go.Ev
end
