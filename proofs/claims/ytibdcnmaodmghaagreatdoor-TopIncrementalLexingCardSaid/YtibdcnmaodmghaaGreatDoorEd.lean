/- Edits in memory; what the caller's slices read as. -/
import Derived.Test.YtibdcnmaodmghaaGreatDoorBase
import Derived.Test.YtibdcnmaodmghaaGreatDoorRows
import Derived.ProofKit
import Derived.OpenShut
import Derived.Deep.Slices
import Derived.Deep.Fields
import Derived.Lib.SmallJoins
import Derived.ChangeSame
import Derived.SizedLaws
import Derived.StillTailTactics
section
namespace Go.Proofs.YtibdcnmaodmghaaGreatDoor
open Go.RowKit Go.ChangeShapes Go.WideShapes Go.ChangeAt Go.Joins

theorem Tryz.own : ownKnob Tryz.prog.godebug = none := by kernel_rfl
theorem Tryz.laidOut : laidOutB Tryz.prog = true := by kernel_rfl

section
variable {H : Type} {enc : TypeId × Value → H}
theorem trodAll_stays {W W' : World} (hb : Below W.heap.size W W') (ts : List TypeId) : ∀ (vs : List Value) (ds : List (DataW H)) (ps : List MemPlace),
    (∀ t ∈ ts, Tryz.prog.readableRec t = true ∧ t < Tryz.prog.types.size) → DataW.TrodAll enc Tryz.prog W 0 (fun _ => true) true ts vs ds ps → (∀ x ∈ ps, x.block < W.heap.size) →
    DataW.TrodAll enc Tryz.prog W' 0 (fun b => decide (b < W.heap.size)) true ts vs ds ps := by
  induction ts with
  | nil =>
    intro vs ds ps _ h _
    obtain ⟨rfl, rfl, rfl⟩ := trodAll_nil h
    rfl
  | cons t ts ih =>
    intro vs ds ps ht h hlt
    obtain ⟨v, vs', d, ds', p, q, rfl, rfl, rfl, h0, h1⟩ := trodAll_cons h
    have ht0 := ht t List.mem_cons_self
    exact trodAll_cons_mk (Below.trod Tryz.laidOut ht0.1 ht0.2 h0 hb (fun x hx => hlt x (List.mem_append_left _ hx))) (ih vs' ds' q (fun t' ht' => ht t' (List.mem_cons_of_mem _ ht')) h1 (fun x hx => hlt x (List.mem_append_right _ hx)))
theorem readables {ts : List TypeId} (h : (ts.all fun t => Tryz.prog.readableRec t && decide (t < Tryz.prog.types.size)) = true) : ∀ t ∈ ts, Tryz.prog.readableRec t = true ∧ t < Tryz.prog.types.size := by
  intro t ht
  have := List.all_eq_true.1 h t ht
  simp only [Bool.and_eq_true, decide_eq_true_eq] at this
  exact this

/-- The row's last step: the call has returned true and turned nothing that was there. -/
theorem law_post {f : Func} {s : ChangeSpec} {W W' : World} {args : Array Value} {ds gs : List (DataW H)} {before : List MemPlace}
    (hr : f.resultTypes.toList = [4]) (hn : f.resultTypes.size = 1) (hv : s.vars = []) (hts : (f.params.toList.all fun t => Tryz.prog.readableRec t && decide (t < Tryz.prog.types.size)) = true)
    (hW : DataW.Whole enc Tryz.prog f.params.toList s.vars false W args.toList ds gs before) (hfr : (s.fn H (ds ++ gs)).results = [.lit (.bool true)]) (hfa : (s.fn H (ds ++ gs)).args = ds) (hfv : (s.fn H (ds ++ gs)).vars = [])
    (hb : Below W.heap.size W W') : s.post enc Tryz.prog f false true false false W args (.bool true) W' := by
  have hW' := hW
  obtain ⟨p, q, hA, hV, rfl, _, _⟩ := hW
  rw [hv] at hV
  obtain ⟨rfl, rfl⟩ := trodVars_none hV
  rw [List.append_nil] at hW'
  have hlt : ∀ x ∈ p, x.block < W.heap.size := fun x hx => by simpa using hW'.lt x hx
  refine ⟨ds, [], p, [], p, [], hW', ?_, ?_, ?_, hb.frame _, fun h => by cases h⟩
  · rw [hr, hfr, hn]; exact trodAll_mk1 (shut_bool Tryz.underlying4 true)
  · rw [hfa]; exact trodAll_stays hb _ _ _ _ (readables hts) hA hlt
  · rw [hv, hfv]; rfl

theorem cells_int : Tryz.prog.cellsOf 3 = 1 := by kernel_rfl
theorem addr_form {w : World} {a : Addr} {u : Value} (h : w.cell? (a.add 0) = some u) : a = ⟨a.block, a.off, none⟩ := by
  obtain ⟨b, off, spot⟩ := a
  have hspot : spot = none := World.cell?_spot h
  subst hspot
  rfl
theorem reads_of {w : World} {size n : Nat} {a : Addr} {xs : List Value} (hs : 0 < size) (hl : xs.length = n * size) (hc : ∀ j u, xs[j]? = some u → w.cell? (a.add j) = some u) : Reads w w.heap.size size (some a) n xs := by
  refine ⟨hl, fun hn => ?_⟩
  have h0 : 0 < xs.length := by rw [hl]; exact Nat.mul_pos hn hs
  have hc0 := hc 0 xs[0] (List.getElem?_eq_getElem h0)
  have ha := addr_form hc0
  refine ⟨a.block, a.off, by rw [← ha], ?_, fun j u hu => ?_⟩
  · have := World.block_lt_of_cell? w _ hc0
    rw [block_of_add] at this
    exact this
  · have := hc j u hu
    rw [ha, Addr.add_lit] at this
    exact this

end
end Go.Proofs.YtibdcnmaodmghaaGreatDoor
end

section
namespace Go.Proofs.YtibdcnmaodmghaaGreatDoor
open Go.RowKit Go.ChangeShapes Go.WideShapes Go.ChangeAt Go.Joins Go.Deep


section
variable {H : Type} {enc : TypeId × Value → H} {P : Program} {w : World} {base : Nat} {spare : Nat → Bool} {held : Bool}
theorem open_slice_fields {t e : TypeId} {fs : Array Field} {fuel : Nat} {cs : List Value} {x : DataW H × List MemPlace} (ht : P.underlying t = some (.slice e)) (he : P.underlying e = some (.struct fs))
    (hone : oneCellFields P fs = true) (hC : P.cellsOf e = fs.size) (h : DataW.trod enc P w base spare held fuel t cs = some x) :
    (cs = [.slice none 0 0] ∧ x = (.nil, [])) ∨
    ∃ (a : Addr) (len cap m : Nat) (D : Nat → DataW H) (Pl : Nat → List MemPlace), cs = [.slice (some a) len cap] ∧ base ≤ a.block ∧ len ≤ cap ∧ cap ≤ maxLen ∧ m = (if spare a.block then cap else len) ∧
      x = (.slice ((List.range len).map D) ((List.range (m - len)).map fun j => D (len + j)), MemPlace.row a (m * fs.size) ++ (List.range m).flatMap Pl) ∧
      ∀ i, i < m → ∃ (ys : List (DataW H × List MemPlace)) (n : Nat), D i = .agg (ys.map (·.1)) ∧ Pl i = ys.flatMap (·.2) ∧ ys.length = fs.size ∧
        ∀ (j : Nat) (f : Field), fs[j]? = some f → ∃ (v : Value) (y : DataW H × List MemPlace), w.cell? (a.add (i * fs.size + j)) = some v ∧ ys[j]? = some y ∧ DataW.trod enc P w base spare held n f.type [v] = some y := by
  rcases open_slice ht h with h0 | ⟨a, len, cap, m, n, D, Pl, hcs, hb, hl, hm, hmm, hx, hi⟩
  · exact .inl h0
  · refine .inr ⟨a, len, cap, m, D, Pl, hcs, hb, hl, hm, hmm, by rw [hC] at hx; exact hx, fun i him => ?_⟩
    obtain ⟨cs', hc, ht'⟩ := hi i him
    rw [hC] at hc
    obtain ⟨ys, n', hn', hy, hlen, hyl, hf⟩ := DataW.trod_struct he ht'
    obtain ⟨_, hcl, hat⟩ := World.cells?_some hc
    simp only [Prod.mk.injEq] at hy
    refine ⟨ys, n', hy.1, hy.2, hyl, fun j f hj => ?_⟩
    obtain ⟨ho, hk⟩ := hone_of hone j f hj
    have hjl : j < fs.size := (Array.getElem?_eq_some_iff.1 hj).1
    have hcell := hat j hjl
    have hv : cs'[j]? = some (cs'[j]'(by omega)) := List.getElem?_eq_getElem (by omega)
    have h1 := hf j f hj
    rw [ho, hk] at h1
    have hone' : (cs'.drop j).take 1 = [cs'[j]'(by omega)] := by
      rw [List.drop_eq_getElem_cons (by omega)]
      rfl
    rw [hone'] at h1
    have hys : ys[j]? = some (ys[j]'(by omega)) := List.getElem?_eq_getElem (by omega)
    refine ⟨_, _, ?_, hys, h1.trans hys⟩
    rw [← Go.Deep.add_add, hcell, hv]
end

theorem weightsAll_mem {H : Type} {P : Program} {e : TypeId} : ∀ {ds : List (DataW H)} {i : Nat} {d : DataW H}, ds[i]? = some d → ∀ n ∈ d.weights P e, n ∈ DataW.weightsAll P e ds
  | [], _, _, h, _, _ => by simp at h
  | x :: ds, 0, d, h, n, hn => by
    simp at h
    subst h
    simp only [DataW.weightsAll, List.mem_append]
    exact .inl hn
  | x :: ds, i + 1, d, h, n, hn => by
    simp only [DataW.weightsAll, List.mem_append]
    exact .inr (weightsAll_mem (by simpa using h) n hn)

end Go.Proofs.YtibdcnmaodmghaaGreatDoor
end

section
namespace Go.Proofs.YtibdcnmaodmghaaGreatDoor
open Go.RowKit
set_option maxRecDepth 20000

structure Ed where
  pos : Int
  del : Int
  ins : ByteArray

def Ed.ok (n : Nat) (e : Ed) : Bool := decide (0 ≤ e.pos ∧ 0 ≤ e.del ∧ e.pos ≤ n ∧ e.del ≤ n - e.pos)
theorem Ed.ok_iff {n : Nat} {e : Ed} : e.ok n = true ↔ 0 ≤ e.pos ∧ 0 ≤ e.del ∧ e.pos ≤ n ∧ e.del ≤ n - e.pos := by simp [Ed.ok]
theorem Ed.ok_no {n : Nat} {e : Ed} (h : ¬ (0 ≤ e.pos ∧ 0 ≤ e.del ∧ e.pos ≤ n ∧ e.del ≤ n - e.pos)) : e.ok n = false := by simp [Ed.ok, h]
/-- The edited text; the empty one where the edit does not fit. -/
def apT (s : ByteArray) (e : Ed) : ByteArray := if e.ok s.size then s.extract 0 e.pos.toNat ++ e.ins ++ s.extract (e.pos.toNat + e.del.toNat) s.size else ⟨#[]⟩
def apF (s : ByteArray) (e : Ed) : Int := if e.ok s.size then 0 else 2
def inv (s : ByteArray) (e : Ed) : Ed := if e.ok s.size then ⟨e.pos, e.ins.size, s.extract e.pos.toNat (e.pos.toNat + e.del.toNat)⟩ else ⟨0, 0, ⟨#[]⟩⟩

set_option maxHeartbeats 1000000 in
theorem fits_any (n : Nat) (a b : Int) (s : ByteArray) (w : World) (hn : n ≤ maxLen) :
    Calls Tryz.prog 35 #[.int .i64 n, .agg #[.int .i64 a, .int .i64 b, .string s]] w fun e w' => e = .returned (.bool (Ed.ok n ⟨a, b, s⟩)) ∧ Below w.heap.size w w' := by
  unfold maxLen at hn
  by_cases h1 : 0 ≤ a
  case neg =>
    have r := Lib.hid (Ed.ok_no (n := n) (e := ⟨a, b, s⟩) (by simp only; omega))
    have t1 : decide (0 ≤ a) = false := by simp; omega
    go_enter Tryz.func35, Tryz.ntmps35
    go_wp2_with fail
    go_ret
    exact ⟨ret_bool r.out.symm, (Below.refl _ _).alloc (Nat.le_refl _) _⟩
  have t1 : decide (0 ≤ a) = true := by simp; omega
  by_cases h2 : 0 ≤ b
  case neg =>
    have r := Lib.hid (Ed.ok_no (n := n) (e := ⟨a, b, s⟩) (by simp only; omega))
    have t2 : decide (0 ≤ b) = false := by simp; omega
    go_enter Tryz.func35, Tryz.ntmps35
    go_wp2_with fail
    go_ret
    exact ⟨ret_bool r.out.symm, (Below.refl _ _).alloc (Nat.le_refl _) _⟩
  have t2 : decide (0 ≤ b) = true := by simp; omega
  by_cases h3 : a ≤ n
  case neg =>
    have r := Lib.hid (Ed.ok_no (n := n) (e := ⟨a, b, s⟩) (by simp only; omega))
    have t3 : decide (a ≤ (n : Int)) = false := by simp; omega
    go_enter Tryz.func35, Tryz.ntmps35
    go_wp2_with fail
    go_ret
    exact ⟨ret_bool r.out.symm, (Below.refl _ _).alloc (Nat.le_refl _) _⟩
  have t3 : decide (a ≤ (n : Int)) = true := by simp; omega
  by_cases h4 : b ≤ n - a
  · have r := Lib.hid (Ed.ok_iff (n := n) (e := ⟨a, b, s⟩) |>.2 ⟨h1, h2, h3, h4⟩)
    have t4 : decide (b ≤ (n : Int) - a) = true := by simp; omega
    go_enter Tryz.func35, Tryz.ntmps35
    go_wp2_with fail
    go_ret
    exact ⟨ret_bool r.out.symm, (Below.refl _ _).alloc (Nat.le_refl _) _⟩
  · have r := Lib.hid (Ed.ok_no (n := n) (e := ⟨a, b, s⟩) (by simp only; omega))
    have t4 : decide (b ≤ (n : Int) - a) = false := by simp; omega
    go_enter Tryz.func35, Tryz.ntmps35
    go_wp2_with fail
    go_ret
    exact ⟨ret_bool r.out.symm, (Below.refl _ _).alloc (Nat.le_refl _) _⟩

set_option maxHeartbeats 1000000 in
theorem apply_any (s : ByteArray) (a b : Int) (t : ByteArray) (w : World) (hs : s.size + t.size ≤ 9223372036854775807) :
    Calls Tryz.prog 12 #[.string s, .agg #[.int .i64 a, .int .i64 b, .string t]] w fun e w' => e = .returned (.tuple #[.string (apT s ⟨a, b, t⟩), .int .i64 (apF s ⟨a, b, t⟩)]) ∧ Below w.heap.size w w' := by
  unfold apT apF
  cases hok : Ed.ok s.size ⟨a, b, t⟩ with
  | false =>
    go_enter Tryz.func12, Tryz.ntmps12
    go_wp2_with (go_at_call 35; refine (fits_any s.size a b t _ (by unfold maxLen; omega)).mono ?_; rintro e w1 ⟨rfl, hb1⟩; rw [hok])
    go_ret2
    exact ⟨rfl, ((Below.refl _ _).alloc (Nat.le_refl _) _).trans (hb1.mono (by simp))⟩
  | true =>
    obtain ⟨h1, h2, h3, h4⟩ := Ed.ok_iff.1 hok
    simp only at h1 h2 h3 h4
    obtain ⟨i, rfl⟩ := Int.eq_ofNat_of_zero_le h1
    obtain ⟨j, rfl⟩ := Int.eq_ofNat_of_zero_le h2
    have hij : i + j ≤ s.size := by omega
    have HOK := Lib.hid hok
    have w1' : IntKind.i64.wrap ((i : Int) + (j : Int)) = (i : Int) + j := IntWalk.i64_in _ (by omega)
    have w2' : (0 : Int) ≤ (i : Int) + j := by omega
    have w3' : ((i : Int) + j).toNat = i + j := by omega
    have w4' : (i : Int) + j ≤ (s.size : Int) := by omega
    have w5' : ¬ (9223372036854775807 < min i s.size + t.size) := by omega
    have w6' : ¬ (9223372036854775807 < min i s.size + t.size + (s.size - (i + j))) := by omega
    clear hok h4
    go_enter Tryz.func12, Tryz.ntmps12
    go_wp2_with (go_at_call 35; refine (fits_any s.size i j t _ (by unfold maxLen; omega)).mono ?_; rintro e w1 ⟨rfl, hb1⟩; rw [HOK.out]; have k0 := (Blk.new' w 44 #[.int .i64 i, .int .i64 j, .string t] rfl).below hb1 (by simp); have c0 := k0.cell 0; have c1 := k0.cell 1; have c2 := k0.cell 2; simp at c0 c1 c2)
    go_quiet (fail)
    go_wp2_with fail
    go_ret2
    exact ⟨rfl, below_drewN (((Below.refl _ _).alloc (Nat.le_refl _) _).trans (hb1.mono (by simp))) _⟩
end Go.Proofs.YtibdcnmaodmghaaGreatDoor
end

section
namespace Go.Proofs.YtibdcnmaodmghaaGreatDoor
open Go.RowKit
set_option maxRecDepth 20000

theorem results_edit_int {fn : Func} {p q : Tmp} (h : fn.results = #[.cell p 44, .tmp q]) {tmps : Array Value} {b o : Nat} (hp : tmps.getD p undef = .pointer (some ⟨b, o, none⟩)) {w : World} {i j : Int} {t : ByteArray} {v : Value}
    (h0 : w.cell? ⟨b, o, none⟩ = some (.int .i64 i)) (h1 : w.cell? ⟨b, o + 1, none⟩ = some (.int .i64 j)) (h2 : w.cell? ⟨b, o + 2, none⟩ = some (.string t)) (hv : tmps.getD q undef = v) :
    (results fn tmps).run Tryz.prog w = .ok (.tuple #[.agg #[.int .i64 i, .int .i64 j, .string t], v]) w := by
  rw [results_cell_tmp h, hp, hv]
  simp [go_sem, asAddr, h0, h1, h2]
theorem Blk.set3 {w : World} {g : Nat} {t : TypeId} {a0 a1 a2 : Value} (h : Blk w g t #[a0, a1, a2]) (x0 x1 x2 : Value) :
    Blk (((w.setCell ⟨g, 0, none⟩ x0).setCell ⟨g, 1, none⟩ x1).setCell ⟨g, 2, none⟩ x2) g t #[x0, x1, x2] := by
  have := ((h.set_ 0 x0).set_ 1 x1).set_ 2 x2
  simpa using this

set_option maxHeartbeats 1000000 in
theorem invert_any (s : ByteArray) (a b : Int) (t : ByteArray) (w : World) (hs : s.size ≤ 9223372036854775807) (_ : t.size ≤ 9223372036854775807) :
    Calls Tryz.prog 85 #[.string s, .agg #[.int .i64 a, .int .i64 b, .string t]] w
      fun e w' => e = .returned (.tuple #[.agg #[.int .i64 (inv s ⟨a, b, t⟩).pos, .int .i64 (inv s ⟨a, b, t⟩).del, .string (inv s ⟨a, b, t⟩).ins], .int .i64 (apF s ⟨a, b, t⟩)]) ∧ Below w.heap.size w w' := by
  have k0 := (Blk.new' w 44 #[.int .i64 a, .int .i64 b, .string t] rfl).alloc (.cells #[.int .i64 0, .int .i64 0, .string ⟨#[]⟩] 44)
  have k1 := Blk.new' (w.alloc (.cells #[.int .i64 a, .int .i64 b, .string t] 44)) 44 #[.int .i64 0, .int .i64 0, .string ⟨#[]⟩] rfl
  simp only [World.size_alloc] at k1
  have hbw : Below w.heap.size w ((w.alloc (.cells #[.int .i64 a, .int .i64 b, .string t] 44)).alloc (.cells #[.int .i64 0, .int .i64 0, .string ⟨#[]⟩] 44)) := ((Below.refl _ _).alloc (Nat.le_refl _) _).alloc (by simp) _
  unfold inv apF
  cases hok : Ed.ok s.size ⟨a, b, t⟩ with
  | false =>
    go_enter Tryz.func85, Tryz.ntmps85
    go_wp2_with (go_at_call 35; refine (fits_any s.size a b t _ (by unfold maxLen; omega)).mono ?_; rintro e w1 ⟨rfl, hb1⟩; rw [hok]; have r0 := (k1.below hb1 (by simp)); have f0 := r0.frozen 0; have f1 := r0.frozen 1; have f2 := r0.frozen 2; have c0 := r0.cell 0; have c1 := r0.cell 1; have c2 := r0.cell 2; simp at c0 c1 c2)
    have r1 := r0.set3 (.int .i64 0) (.int .i64 0) (.string ⟨#[]⟩)
    refine bodyPost_ret (results_edit_int rfl rfl (r1.cell 0) (r1.cell 1) (r1.cell 2) rfl) rfl ⟨rfl, ?_⟩
    exact (((hbw.trans (hb1.mono (by simp; omega))).setCell (by simp) _).setCell (by simp) _).setCell (by simp) _
  | true =>
    obtain ⟨h1, h2, h3, h4⟩ := Ed.ok_iff.1 hok
    simp only at h1 h2 h3 h4
    obtain ⟨i, rfl⟩ := Int.eq_ofNat_of_zero_le h1
    obtain ⟨j, rfl⟩ := Int.eq_ofNat_of_zero_le h2
    have hij : i + j ≤ s.size := by omega
    have HOK := Lib.hid hok
    have w1' : IntKind.i64.wrap ((i : Int) + (j : Int)) = (i : Int) + j := IntWalk.i64_in _ (by omega)
    have w2' : (0 : Int) ≤ (i : Int) + j := by omega
    have w3' : ((i : Int) + j).toNat = i + j := by omega
    have w4' : (i : Int) + j ≤ (s.size : Int) := by omega
    have w5' : (i : Int) ≤ (i : Int) + j := by omega
    clear hok h4
    go_enter Tryz.func85, Tryz.ntmps85
    go_wp2_with (go_at_call 35; refine (fits_any s.size i j t _ (by unfold maxLen; omega)).mono ?_; rintro e w1 ⟨rfl, hb1⟩; rw [HOK.out]; have r0 := (k1.below hb1 (by simp)); have f0 := r0.frozen 0; have f1 := r0.frozen 1; have f2 := r0.frozen 2; have c0 := r0.cell 0; have c1 := r0.cell 1; have c2 := r0.cell 2; have q0 := (k0.below hb1 (by simp; omega)); have d0 := q0.cell 0; have d1 := q0.cell 1; have d2 := q0.cell 2; simp at c0 c1 c2 d0 d1 d2)
    go_still_tail 15, (by kernel_rfl)
    change wpList _ _ _ _ _ w1.drew
    go_wp2_with fail
    have r1 := (r0.drewN 1).set3 (.int .i64 i) (.int .i64 t.size) (.string (s.extract i (i + j)))
    refine bodyPost_ret (results_edit_int rfl rfl (r1.cell 0) (r1.cell 1) (r1.cell 2) rfl) rfl ⟨rfl, ?_⟩
    exact (((below_drewN (hbw.trans (hb1.mono (by simp; omega))) 1).setCell (by simp) _).setCell (by simp) _).setCell (by simp) _
end Go.Proofs.YtibdcnmaodmghaaGreatDoor
end

section
namespace Go.Proofs.YtibdcnmaodmghaaGreatDoor
open Go.RowKit
set_option maxRecDepth 20000


def bl (s : ByteArray) : List UInt8 := s.data.toList
theorem bl_inj {s t : ByteArray} (h : bl s = bl t) : s = t := ByteArray.ext (Array.toList_inj.1 h)
theorem bl_append (s t : ByteArray) : bl (s ++ t) = bl s ++ bl t := by simp [bl]
theorem bl_extract (s : ByteArray) (i j : Nat) : bl (s.extract i j) = ((bl s).take j).drop i := by
  have h : (s.extract i j).data = s.data.extract i j := by simp
  unfold bl
  rw [h, Array.toList_extract, List.extract_eq_take_drop, List.drop_take]
theorem bl_length (s : ByteArray) : (bl s).length = s.size := by show s.data.toList.length = s.data.size; simp
theorem bl_empty : bl ⟨#[]⟩ = [] := rfl

/-- The edited text as a list. -/
theorem bl_apT {s : ByteArray} {e : Ed} (h : e.ok s.size = true) : bl (apT s e) = (bl s).take e.pos.toNat ++ bl e.ins ++ (bl s).drop (e.pos.toNat + e.del.toNat) := by
  simp only [apT, h, if_true, bl_append, bl_extract]
  rw [List.drop_zero, List.take_of_length_le (Nat.le_of_eq (bl_length s))]
theorem apT_size_ok {s : ByteArray} {e : Ed} (h : e.ok s.size = true) : ((apT s e).size : Int) = s.size + e.ins.size - e.del := by
  have h2 := congrArg List.length (bl_apT h)
  obtain ⟨h1, h3, h4, h5⟩ := Ed.ok_iff.1 h
  simp only [bl_length, List.length_append, List.length_take, List.length_drop] at h2
  omega

/-- An edit followed by its inverse. -/
theorem inv_pos {s : ByteArray} {e : Ed} (h : e.ok s.size = true) : inv s e = ⟨e.pos, e.ins.size, s.extract e.pos.toNat (e.pos.toNat + e.del.toNat)⟩ := by simp [inv, h]
theorem inv_ok {s : ByteArray} {e : Ed} (h : e.ok s.size = true) : (inv s e).ok (apT s e).size = true := by
  have h2 := apT_size_ok h
  obtain ⟨h1, h3, h4, h5⟩ := Ed.ok_iff.1 h
  rw [inv_pos h]
  exact Ed.ok_iff.2 ⟨h1, by simp, by simp only; omega, by simp only; omega⟩
theorem inv_apT {s : ByteArray} {e : Ed} (h : e.ok s.size = true) : apT (apT s e) (inv s e) = s := by
  have hi := inv_ok h
  obtain ⟨h1, h3, h4, h5⟩ := Ed.ok_iff.1 h
  apply bl_inj
  rw [bl_apT hi, bl_apT h, inv_pos h]
  simp only [Int.toNat_natCast, bl_extract]
  have hp : e.pos.toNat ≤ (bl s).length := by rw [bl_length]; omega
  have hl : ((bl s).take e.pos.toNat).length = e.pos.toNat := by rw [List.length_take]; omega
  have e1 : ((bl s).take e.pos.toNat ++ bl e.ins ++ (bl s).drop (e.pos.toNat + e.del.toNat)).take e.pos.toNat = (bl s).take e.pos.toNat := by rw [List.append_assoc, List.take_left' hl]
  have e2 : ((bl s).take e.pos.toNat ++ bl e.ins ++ (bl s).drop (e.pos.toNat + e.del.toNat)).drop (e.pos.toNat + e.ins.size) = (bl s).drop (e.pos.toNat + e.del.toNat) := List.drop_left' (by rw [List.length_append, hl, bl_length])
  rw [e1, e2, List.drop_take, show e.pos.toNat + e.del.toNat - e.pos.toNat = e.del.toNat by omega, ← List.take_add, List.take_append_drop]
end Go.Proofs.YtibdcnmaodmghaaGreatDoor
end

section
namespace Go.Proofs.YtibdcnmaodmghaaGreatDoor
open Go.RowKit
set_option maxRecDepth 20000

def Ed.cells (t : Ed) : List Value := [.int .i64 t.pos, .int .i64 t.del, .string t.ins]
def eds (l : List Ed) : List Value := l.flatMap Ed.cells
theorem eds_length (l : List Ed) : (eds l).length = l.length * 3 := by
  induction l with
  | nil => rfl
  | cons t l ih => simp only [eds, List.flatMap_cons, List.length_append] at *; rw [ih]; simp [Ed.cells]; omega
theorem eds_append (l m : List Ed) : eds (l ++ m) = eds l ++ eds m := by simp [eds]
theorem eds_at : ∀ (l : List Ed) (k : Nat) (t : Ed) (j : Nat), l[k]? = some t → j < 3 → (eds l)[k * 3 + j]? = t.cells[j]?
  | [], _, _, _, h, _ => by simp at h
  | x :: l, 0, t, j, h, hj => by
    simp at h
    subst h
    simp only [eds, List.flatMap_cons]
    rw [List.getElem?_append_left (by simp [Ed.cells]; omega)]
    simp
  | x :: l, k + 1, t, j, h, hj => by
    simp at h
    have := eds_at l k t j h hj
    simp only [eds, List.flatMap_cons] at *
    rw [List.getElem?_append_right (by simp [Ed.cells]; omega)]
    rw [← this]
    congr 1
    simp [Ed.cells]; omega
section
variable {w : World} {B n : Nat} {A : Option Addr} {l : List Ed}
theorem Reads.len_eds (h : Reads w B 3 A n (eds l)) : l.length = n := by have := h.1; rw [eds_length] at this; omega
theorem Reads.ed_at (h : Reads w B 3 A n (eds l)) {k : Nat} (hk : k < n) :
    ∃ b off t, A = some ⟨b, off, none⟩ ∧ b < B ∧ l[k]? = some t ∧ w.cell? ⟨b, off + k * 3, none⟩ = some (.int .i64 t.pos) ∧ w.cell? ⟨b, off + k * 3 + 1, none⟩ = some (.int .i64 t.del) ∧
      w.cell? ⟨b, off + k * 3 + 2, none⟩ = some (.string t.ins) := by
  obtain ⟨b, off, e, hb, hc⟩ := h.2 (by omega)
  have hl : k < l.length := by rw [h.len_eds]; exact hk
  have ht := List.getElem?_eq_getElem hl
  refine ⟨b, off, l[k], e, hb, ht, ?_, ?_, ?_⟩
  · have := hc (k * 3 + 0) (.int .i64 l[k].pos) (by rw [eds_at l k _ 0 ht (by omega)]; rfl)
    simpa using this
  · have := hc (k * 3 + 1) (.int .i64 l[k].del) (by rw [eds_at l k _ 1 ht (by omega)]; rfl)
    simpa [Nat.add_assoc] using this
  · have := hc (k * 3 + 2) (.string l[k].ins) (by rw [eds_at l k _ 2 ht (by omega)]; rfl)
    simpa [Nat.add_assoc] using this
end

def sumIns (l : List Ed) : Nat := (l.map fun e => e.ins.size).sum
theorem apT_size (s : ByteArray) (e : Ed) : (apT s e).size ≤ s.size + e.ins.size := by
  unfold apT
  split
  · rename_i h
    obtain ⟨h1, h2, h3, h4⟩ := Ed.ok_iff.1 h
    simp only [ByteArray.size_append, ByteArray.size_extract]
    omega
  · exact Nat.zero_le _
def apAll : ByteArray → List Ed → ByteArray × Int
  | s, [] => (s, 0)
  | s, e :: l => if e.ok s.size then apAll (apT s e) l else (⟨#[]⟩, 2)
theorem drop_cons_ed {l : List Ed} {k : Nat} {t : Ed} (h : l[k]? = some t) : l.drop k = t :: l.drop (k + 1) := by
  obtain ⟨hk, e⟩ := List.getElem?_eq_some_iff.1 h
  rw [List.drop_eq_getElem_cons hk, e]
theorem apF_ok {s : ByteArray} {e : Ed} (h : e.ok s.size = true) : apF s e = 0 := by simp [apF, h]
theorem apF_no {s : ByteArray} {e : Ed} (h : e.ok s.size = false) : apF s e = 2 := by simp [apF, h]
theorem apAll_ok {s : ByteArray} {e : Ed} {l : List Ed} (h : e.ok s.size = true) : apAll s (e :: l) = apAll (apT s e) l := by simp [apAll, h]
theorem apAll_no {s : ByteArray} {e : Ed} {l : List Ed} (h : e.ok s.size = false) : apAll s (e :: l) = (⟨#[]⟩, 2) := by simp [apAll, h]

theorem inv_inv {s : ByteArray} {e : Ed} (h : e.ok s.size = true) : inv (apT s e) (inv s e) = e := by
  have hi := inv_ok h
  obtain ⟨h1, h3, h4, h5⟩ := Ed.ok_iff.1 h
  rw [inv_pos hi, inv_pos h]
  obtain ⟨p, d, t⟩ := e
  simp only at h1 h3 h4 h5 ⊢
  have hp : p.toNat ≤ (bl s).length := by rw [bl_length]; omega
  have hl : ((bl s).take p.toNat).length = p.toNat := by rw [List.length_take]; omega
  congr 1
  · rw [ByteArray.size_extract]; omega
  · apply bl_inj
    rw [bl_extract, bl_apT h]
    simp only [Int.toNat_natCast]
    rw [List.append_assoc, List.take_add, List.take_left' hl, List.drop_left' hl, List.drop_left' hl, List.take_left' (bl_length t)]

def ed0 : Ed := ⟨0, 0, ⟨#[]⟩⟩
def Ed.eqb (a b : Ed) : Bool := a.pos == b.pos && (a.del == b.del && a.ins.toList == b.ins.toList)
theorem Ed.eqb_iff {a b : Ed} : a.eqb b = true ↔ a = b := by
  obtain ⟨k, p, t⟩ := a
  obtain ⟨k', p', t'⟩ := b
  simp only [Ed.eqb, Bool.and_eq_true, beq_iff_eq, Ed.mk.injEq]
  have ht : t.toList = t'.toList ↔ t = t' := by
    constructor
    · intro h
      exact ByteArray.ext (by rw [ByteArray.toList_eq, ByteArray.toList_eq] at h; exact Array.toList_inj.1 h)
    · intro h; rw [h]
  rw [ht]
theorem Ed.underStruct : Tryz.prog.underlying 44 = some (.struct (Tryz.prog.fieldsOf 44)) := by kernel_rfl
theorem run_neq_ed (w : World) (a b c d : Int) (s t : ByteArray) :
    (binOp .neq 44 (.agg #[.int .i64 a, .int .i64 b, .string s]) (.agg #[.int .i64 c, .int .i64 d, .string t])).run Tryz.prog w = .ok (.bool (!Ed.eqb ⟨a, b, s⟩ ⟨c, d, t⟩)) w := by
  unfold Ed.eqb
  simp only [binOp]
  by_cases h1 : a = c
  · by_cases h2 : b = d
    · by_cases h3 : s.toList = t.toList <;> simp [go_sem, Op.equal, Op.maxDepth, h1, h2, h3]
    · simp [go_sem, Op.equal, Op.maxDepth, h1, h2]
  · simp [go_sem, Op.equal, Op.maxDepth, h1]
theorem run_eql_ed (w : World) (a b c d : Int) (s t : ByteArray) :
    (binOp .eql 44 (.agg #[.int .i64 a, .int .i64 b, .string s]) (.agg #[.int .i64 c, .int .i64 d, .string t])).run Tryz.prog w = .ok (.bool (Ed.eqb ⟨a, b, s⟩ ⟨c, d, t⟩)) w := by
  unfold Ed.eqb
  simp only [binOp]
  by_cases h1 : a = c
  · by_cases h2 : b = d
    · by_cases h3 : s.toList = t.toList <;> simp [go_sem, Op.equal, Op.maxDepth, h1, h2, h3]
    · simp [go_sem, Op.equal, Op.maxDepth, h1, h2]
  · simp [go_sem, Op.equal, Op.maxDepth, h1]

end Go.Proofs.YtibdcnmaodmghaaGreatDoor
end

section
namespace Go.Proofs.YtibdcnmaodmghaaGreatDoor
set_option maxRecDepth 100000
open Go.RowKit Go.ChangeShapes Go.WideShapes Go.ChangeAt Go.Joins Go.Deep


theorem cells_ed : Tryz.prog.cellsOf 44 = 3 := by kernel_rfl
theorem cells_str : Tryz.prog.cellsOf 9 = 1 := by kernel_rfl
section
variable {H : Type} {enc : TypeId × Value → H}
/-- An edit's three cells. -/
theorem trod_ed {w : World} {base : Nat} {spare : Nat → Bool} {held : Bool} {fuel : Nat} {c0 c1 c2 : Value} {x : DataW H × List MemPlace} (h : DataW.trod enc Tryz.prog w base spare held fuel 44 [c0, c1, c2] = some x) :
    ∃ (a b : Int) (t : ByteArray), c0 = .int .i64 a ∧ c1 = .int .i64 b ∧ c2 = .string t ∧ ((∀ n ∈ x.1.weights Tryz.prog 44, n ≤ reachBytes) → t.size ≤ reachBytes) := by
  obtain ⟨ys, n, _, rfl, _, hyl, hf⟩ := DataW.trod_struct Tryz.underlying44 h
  have g0 : DataW.trod enc Tryz.prog w base spare held n 3 (List.take (Tryz.prog.cellsOf 3) [c0, c1, c2]) = ys[0]? := hf 0 _ rfl
  have g1 : DataW.trod enc Tryz.prog w base spare held n 3 (List.take (Tryz.prog.cellsOf 3) [c1, c2]) = ys[1]? := hf 1 _ rfl
  have g2 : DataW.trod enc Tryz.prog w base spare held n 9 (List.take (Tryz.prog.cellsOf 9) [c2]) = ys[2]? := hf 2 _ rfl
  have s0 := List.getElem?_eq_getElem (l := ys) (i := 0) (by rw [hyl]; decide)
  have s1 := List.getElem?_eq_getElem (l := ys) (i := 1) (by rw [hyl]; decide)
  have s2 := List.getElem?_eq_getElem (l := ys) (i := 2) (by rw [hyl]; decide)
  rw [s0] at g0
  rw [s1] at g1
  rw [s2] at g2
  simp only [cells_int, cells_str, List.take_succ_cons, List.take_zero] at g0 g1 g2
  obtain ⟨a, e0, _, _⟩ := DataW.trod_int Tryz.underlying3 g0
  obtain ⟨b, e1, _, _⟩ := DataW.trod_int Tryz.underlying3 g1
  obtain ⟨t, e2, hy2, _⟩ := DataW.trod_string Tryz.underlying9 g2
  simp at e0 e1 e2
  refine ⟨a, b, t, e0, e1, e2, fun hw => ?_⟩
  have hp : (ys.map (·.1))[2]? = some (.lit (.string t.data.toList)) := by rw [List.getElem?_map, s2, hy2]; rfl
  have := hw t.data.toList.length (by
    simp only [DataW.weights, Tryz.underlying44]
    exact DataW.weights_mem_each (j := 2) (t := 9) rfl hp _ (by simp [DataW.weights]))
  rw [Array.length_toList] at this
  exact this
theorem open_ed {W : World} {v : Value} {d : DataW H} {p : List MemPlace} {r : Reach} {b0 : Nat} (hv : Value.okWide Tryz.prog W r b0 44 v) (h : DataW.Trod enc Tryz.prog W 0 (fun _ => true) true 44 v d p)
    (hw : ∀ n ∈ d.weights Tryz.prog 44, n ≤ reachBytes) : ∃ (a b : Int) (t : ByteArray), v = .agg #[.int .i64 a, .int .i64 b, .string t] ∧ t.size ≤ reachBytes := by
  obtain ⟨v0, v1, v2, y0, y1, y2, n, rfl, rfl, _, h0, h1, h2⟩ := open_agg3 Tryz.underlying44 (by kernel_rfl) cells_ed hv h
  obtain ⟨a, e0, _, _⟩ := DataW.trod_int Tryz.underlying3 h0
  obtain ⟨b, e1, _, _⟩ := DataW.trod_int Tryz.underlying3 h1
  obtain ⟨t, e2, hy2, _⟩ := DataW.trod_string Tryz.underlying9 h2
  simp at e0 e1 e2
  subst e0; subst e1; subst e2
  refine ⟨a, b, t, rfl, ?_⟩
  have := hw t.data.toList.length (by
    simp only [DataW.weights, Tryz.underlying44]
    refine DataW.weights_mem_each (j := 2) (t := 9) (d := .lit (.string t.data.toList)) rfl (by rw [hy2]; rfl) _ (by simp [DataW.weights]))
  rw [Array.length_toList] at this
  exact this
theorem open_strb {W : World} {v : Value} {d : DataW H} {p : List MemPlace} {r : Reach} {b0 : Nat} (hv : Value.okWide Tryz.prog W r b0 9 v) (h : DataW.Trod enc Tryz.prog W 0 (fun _ => true) true 9 v d p)
    (hw : ∀ n ∈ d.weights Tryz.prog 9, n ≤ reachBytes) : ∃ t : ByteArray, v = .string t ∧ t.size ≤ reachBytes := by
  obtain ⟨s, rfl, rfl, _, hs⟩ := ChangeMaps.open_string Tryz.underlying9 hv h
  refine ⟨s, rfl, ?_⟩
  have := hw s.data.toList.length (by simp [DataW.weights])
  rw [Array.length_toList] at this
  exact this
end
end Go.Proofs.YtibdcnmaodmghaaGreatDoor
end

section
namespace Go.Proofs.YtibdcnmaodmghaaGreatDoor
set_option maxRecDepth 100000
open Go.RowKit Go.ChangeShapes Go.WideShapes Go.ChangeAt Go.Joins Go.Deep
variable {H : Type} {enc : TypeId × Value → H}

theorem open_eds {W : World} {v : Value} {d : DataW H} {p : List MemPlace} {r : Reach} {b0 : Nat} (hv : Value.okWide Tryz.prog W r b0 22 v) (h : DataW.Trod enc Tryz.prog W 0 (fun _ => true) true 22 v d p)
    (hw : ∀ n ∈ d.weights Tryz.prog 22, n ≤ reachBytes) :
    ∃ A len cap l, v = .slice A len cap ∧ Reads W W.heap.size 3 A len (eds l) ∧ len ≤ cap ∧ cap ≤ maxLen ∧ ∀ t ∈ l, t.ins.size ≤ reachBytes := by
  obtain ⟨a0, len0, cap0, rfl⟩ := okWide_slice Tryz.underlying22 hv
  obtain ⟨fuel, hf⟩ := h
  rcases open_slice_fields Tryz.underlying22 Tryz.underlying44 (by kernel_rfl) cells_ed hf with ⟨hcs, _⟩ | ⟨a, len, cap, m, D, Pl, hcs, _, hl, hm, hmm, hx, hi⟩
  · simp [Value.cells] at hcs
    obtain ⟨rfl, rfl, rfl⟩ := hcs
    exact ⟨none, 0, 0, [], rfl, Reads.nil_, Nat.le_refl _, by unfold maxLen; omega, by simp⟩
  · simp [Value.cells] at hcs
    obtain ⟨rfl, rfl, rfl⟩ := hcs
    simp only [if_true] at hmm
    subst hmm
    simp only [Prod.mk.injEq] at hx
    obtain ⟨rfl, _⟩ := hx
    have each : ∀ i : Fin len0, ∃ t : Ed, W.cell? (a.add (i * 3 + 0)) = some (.int .i64 t.pos) ∧ W.cell? (a.add (i * 3 + 1)) = some (.int .i64 t.del) ∧ W.cell? (a.add (i * 3 + 2)) = some (.string t.ins) ∧ t.ins.size ≤ reachBytes := by
      intro i
      obtain ⟨ys, n, hD, _, hlen, hf⟩ := hi i.1 (by have := i.2; omega)
      obtain ⟨u0, y0, c0, g0, t0⟩ := hf 0 _ rfl
      obtain ⟨u1, y1, c1, g1, t1⟩ := hf 1 _ rfl
      obtain ⟨u2, y2, c2, g2, t2⟩ := hf 2 _ rfl
      obtain ⟨k, e0, _, _⟩ := DataW.trod_int Tryz.underlying3 t0
      obtain ⟨q, e1, _, _⟩ := DataW.trod_int Tryz.underlying3 t1
      obtain ⟨s, e2, hy2, _⟩ := DataW.trod_string Tryz.underlying9 t2
      simp at e0 e1 e2
      subst e0; subst e1; subst e2
      refine ⟨⟨k, q, s⟩, c0, c1, c2, ?_⟩
      have hp : (ys.map (·.1))[2]? = some (.lit (.string s.data.toList)) := by rw [List.getElem?_map, g2, hy2]; rfl
      have hmem : s.data.toList.length ∈ (D i.1).weights Tryz.prog 44 := by
        rw [hD]
        simp only [DataW.weights, Tryz.underlying44]
        exact DataW.weights_mem_each (j := 2) (t := 9) rfl hp _ (by simp [DataW.weights])
      have := hw s.data.toList.length (by
        simp only [DataW.weights, Tryz.underlying22]
        refine List.mem_cons_of_mem _ (List.mem_append_left _ (weightsAll_mem (i := i.1) (d := D i.1) ?_ _ hmem))
        rw [List.getElem?_map, List.getElem?_range i.2]
        rfl)
      rw [Array.length_toList] at this
      exact this
    let q : Fin len0 → Ed := fun i => Classical.choose (each i)
    have hq := fun i => Classical.choose_spec (each i)
    refine ⟨some a, len0, _, List.ofFn q, rfl, reads_of (by omega) (by rw [eds_length]; simp) ?_, by omega, by omega, ?_⟩
    · intro j u hu
      have hj : j < len0 * 3 := by
        have := (List.getElem?_eq_some_iff.1 hu).1
        rw [eds_length] at this
        simpa using this
      have hdiv : j / 3 < len0 := by omega
      have ht : (List.ofFn q)[j / 3]? = some (q ⟨j / 3, hdiv⟩) := by rw [List.getElem?_ofFn, dif_pos hdiv]
      have h4 := eds_at (List.ofFn q) (j / 3) _ (j % 3) ht (Nat.mod_lt _ (by omega))
      rw [show j / 3 * 3 + j % 3 = j by omega, hu] at h4
      obtain ⟨r0, r1, r2, _⟩ := hq ⟨j / 3, hdiv⟩
      simp only at r0 r1 r2
      have hj4 : j % 3 < 3 := Nat.mod_lt _ (by omega)
      rcases (show j % 3 = 0 ∨ j % 3 = 1 ∨ j % 3 = 2 by omega) with h | h | h
      · rw [h] at h4; rw [show j = j / 3 * 3 + 0 by omega, r0]; simpa [Ed.cells] using h4.symm
      · rw [h] at h4; rw [show j = j / 3 * 3 + 1 by omega, r1]; simpa [Ed.cells] using h4.symm
      · rw [h] at h4; rw [show j = j / 3 * 3 + 2 by omega, r2]; simpa [Ed.cells] using h4.symm
    · intro t ht
      obtain ⟨i, rfl⟩ := List.mem_ofFn.1 ht
      exact (hq i).2.2.2
end Go.Proofs.YtibdcnmaodmghaaGreatDoor
end
