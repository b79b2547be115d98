/- The evaluator: calls, loops, checks of its steps. -/
import Derived.Test.YtibdcnmaodmghaaGreatDoorEvA
import Derived.MapKept
import Derived.Laws.IdiomCopy
import Derived.Deep.Upon
section
namespace Go.Ev
open Go
section
variable {P : Program} {r : Rho} {A : Tr AV} {a : Act} {w : World}

theorem at_run {id off n k size : Nat} {v : AV} (h : at_ size id off n k = some v) : k < n ∧ v = .p id (off + k * size) := by
  unfold at_ at h
  cases e : Nat.blt k n with
  | false => rw [e] at h; cases h
  | true =>
    rw [e] at h
    refine ⟨by simp [Nat.blt] at e; omega, ?_⟩
    injection h with h
    exact h.symm
theorem indexAt_slice {t e size : Nat} (hu : P.underlying t = some (.slice e)) (hs : sizeB P e = some size) {b off len cap k : Nat} {kd : IntKind} (hk : k < len) :
    (Instr.indexAt t (.slice (some ⟨b, off, none⟩) len cap) (.int kd (k : Int))).run P w = .ok (.pointer (some ⟨b, off + k * size, none⟩)) w := by
  have h1 : (0 : Int) ≤ (k : Int) ∧ (k : Int) < (len : Int) := by omega
  simp only [Instr.indexAt, asIntOf, Sem.run_bind, Sem.run_pure, Result.andThen_ok, run_underlying hu, if_pos h1, sizeB_run hs, Int.toNat_natCast, addr_add0]
theorem indexAt_array {t e size n : Nat} (hu : P.underlying t = some (.array n e)) (hs : sizeB P e = some size) {b off k : Nat} {kd : IntKind} (hk : k < n) :
    (Instr.indexAt t (.pointer (some ⟨b, off, none⟩)) (.int kd (k : Int))).run P w = .ok (.pointer (some ⟨b, off + k * size, none⟩)) w := by
  have h1 : (0 : Int) ≤ (k : Int) ∧ (k : Int) < (n : Int) := by omega
  simp only [Instr.indexAt, asIntOf, Sem.run_bind, Sem.run_pure, Result.andThen_ok, run_underlying hu, Instr.sureAddr, if_pos h1, sizeB_run hs, Int.toNat_natCast, addr_add0]
theorem nthN_get : ∀ {l : List Nat} {k n : Nat}, nthN l k = some n → l[k]? = some n
  | [], _, _, h => by cases h
  | x :: l, 0, n, h => by
    have : some x = some n := h
    cases this; rfl
  | x :: l, k + 1, n, h => by
    have h : nthN l k = some n := h
    simpa using nthN_get h
theorem eqv_po {t : TypeId} {k : EK} (hs : ekOf P t = some k) {x y v : AV} {neg : Bool} (hx : ok r x) (hy : ok r y) (h : poEqv neg k x y = some v) (ox oy : Operand) :
    ((do eqGuard (bif neg then .neq else .eql) t ox oy (conc r x) (conc r y); binOp (bif neg then .neq else .eql) t (conc r x) (conc r y) : Sem Value)).run P w = .ok (conc r v) w ∧ ok r v := by
  unfold poEqv at h
  cases e : eqEK k x y with
  | none => rw [e] at h; cases h
  | some q =>
    rw [e] at h
    obtain ⟨h1, h2⟩ := eqv_run (w := w) hs hx hy e ox oy
    cases neg with
    | false => cases h; exact ⟨h1, trivial⟩
    | true => cases h; exact ⟨h2, trivial⟩
theorem mapM_places {fs : Array Field} {parts : List (Nat × Operand)} {ps : List (Nat × Nat)} (h : allSome (fun p : Nat × Operand => (fs[p.1]?).bind fun f : Field => (sizeB P f.type).map fun n => (f.offset, n)) parts = some ps)
    (hall : ∃ places, fs.toList.mapM (fun f : Field => (P.info? f.type).map fun i => (f.offset, i.size)) = some places) :
    ∃ places, fs.toList.mapM (fun f : Field => (P.info? f.type).map fun i => (f.offset, i.size)) = some places ∧ parts.map (fun p => places.toArray[p.1]?) = ps.map some := by
  obtain ⟨places, hp⟩ := hall
  refine ⟨places, hp, ?_⟩
  have hm := allSome_map h
  rw [← hm]
  apply List.map_congr_left
  intro p hpm
  have key : ∀ (l : List Field) (q : List (Nat × Nat)), l.mapM (fun f : Field => (P.info? f.type).map fun i => (f.offset, i.size)) = some q → ∀ i : Nat, q[i]? = (l[i]?).bind fun f : Field => (sizeB P f.type).map fun n => (f.offset, n) := by
    intro l
    induction l with
    | nil => intro q hq i; simp at hq; subst hq; simp
    | cons f l ih =>
      intro q hq i
      rw [List.mapM_cons] at hq
      cases e1 : P.info? f.type with
      | none => simp [e1] at hq
      | some inf =>
        cases e2 : l.mapM (fun f : Field => (P.info? f.type).map fun i => (f.offset, i.size)) with
        | none => simp [e1, e2] at hq
        | some q' =>
          simp [e1, e2] at hq
          subst hq
          cases i with
          | zero => simp [sizeB, e1]
          | succ i => simpa using ih q' e2 i
  have := key fs.toList places hp p.1
  simpa using this
theorem mapM_all : ∀ {fs : List Field}, (fs.all fun f : Field => (P.info? f.type).isSome) = true → (fs.mapM (fun f : Field => (P.info? f.type).map fun i => (f.offset, i.size))).isSome = true
  | [], _ => by simp
  | f :: fs, h => by
    simp only [List.all_cons, Bool.and_eq_true] at h
    obtain ⟨i, hi⟩ := Option.isSome_iff_exists.1 h.1
    obtain ⟨q, hq⟩ := Option.isSome_iff_exists.1 (mapM_all h.2)
    simp [List.mapM_cons, hi, hq]
theorem zero_info {t : Nat} {z : AV} (h : zeroB P t = some z) (r : Rho) : ∃ i zv, P.info? t = some i ∧ i.zero = some zv ∧ zv = conc r z := by
  unfold zeroB at h
  cases e : P.info? t with
  | none => simp [e] at h
  | some i =>
    cases e2 : i.zero with
    | none => simp [e, e2] at h
    | some zv =>
      cases e3 : absV zv with
      | none => simp [e, e2, e3] at h
      | some z' =>
        cases e4 : oneB z' with
        | false => simp [e, e2, e3, e4] at h
        | true =>
          simp [e, e2, e3, e4] at h
          subst h
          exact ⟨i, zv, rfl, e2, (absV_conc r zv z' e3).1.symm⟩
theorem build_array {t e n size : Nat} {parts : Array (Nat × Operand)} {z c l : AV} (ez : zeroB P t = some z) (hu : P.underlying t = some (.array n e)) (es : sizeB P e = some size)
    (h1 : parts.toList.map (fun p => a.eval p.2) = concL r l) (h2 : ok r l) (ef : fillB (parts.toList.map fun p => (p.1 * size, size)) z.cells l = some c) :
    (Instr.build t (parts.map fun (i, x) => (i, a.eval x))).run P w = .ok (conc r (.ag c)) w ∧ ok r c ∧ flat c := by
  obtain ⟨_, oz, o1⟩ := zeroB_run (w := w) ez r
  obtain ⟨it, zv, hi, hz, hzv⟩ := zero_info ez r
  obtain ⟨ie, hie, hsz, _⟩ := info_size es
  obtain ⟨h3, h4, h5, _⟩ := fillB_run (r := r) (place := fun i => some (i * size, size)) (ps := parts.toList) (by simp) h1 (ok_cells oz) (flat_cells oz o1) h2 ef
  refine ⟨run_build w t _ _ ?_, h4, h5⟩
  rw [concL_cells] at h3
  simp only [Program.built, hi, hu, hz, hie, hsz, hzv, Array.toList_map]
  exact h3
theorem build_struct {t : Nat} {fields : Array Field} {parts : Array (Nat × Operand)} {z c l : AV} {ps : List (Nat × Nat)} (ez : zeroB P t = some z) (hu : P.underlying t = some (.struct fields))
    (ep : allSome (fun p : Nat × Operand => (fields[p.1]?).bind fun f : Field => (sizeB P f.type).map fun n => (f.offset, n)) parts.toList = some ps) (hall : (fields.toList.mapM (fun f : Field => (P.info? f.type).map fun i => (f.offset, i.size))).isSome = true)
    (h1 : parts.toList.map (fun p => a.eval p.2) = concL r l) (h2 : ok r l) (ef : fillB ps z.cells l = some c) :
    (Instr.build t (parts.map fun (i, x) => (i, a.eval x))).run P w = .ok (conc r (.ag c)) w ∧ ok r c ∧ flat c := by
  obtain ⟨_, oz, o1⟩ := zeroB_run (w := w) ez r
  obtain ⟨it, zv, hi, hz, hzv⟩ := zero_info ez r
  obtain ⟨places, hp, hpl⟩ := mapM_places ep (Option.isSome_iff_exists.1 hall)
  obtain ⟨h3, h4, h5, _⟩ := fillB_run (r := r) (place := (places.toArray[·]?)) (ps := parts.toList) hpl h1 (ok_cells oz) (flat_cells oz o1) h2 ef
  refine ⟨run_build w t _ _ ?_, h4, h5⟩
  rw [concL_cells] at h3
  simp only [Program.built, hi, hu, hz, hp, hzv, Array.toList_map]
  exact h3
theorem bif_some {α : Type} {c : Bool} {x : Option α} {y : α} (h : (bif c then x else none) = some y) : c = true ∧ x = some y := by
  cases c with
  | false => cases h
  | true => exact ⟨rfl, h⟩
theorem min_run {k : IntKind} {x y : Int} {ats : Array TypeId} {t : TypeId} : (Builtin.min_ ats t #[.int k x, .int k y]).run P w = .ok (.int k (bif intLe x y then x else y)) w := by
  have e : (if y < x then y else x) = (bif intLe x y then x else y) := by
    rw [intLe_dec]
    by_cases h : x ≤ y
    · rw [if_neg (by omega)]; simp [h]
    · rw [if_pos (by omega)]; simp [h]
  rw [← e]
  simp [Builtin.min_, Builtin.min2]
theorem max_run {k : IntKind} {x y : Int} {ats : Array TypeId} {t : TypeId} : (Builtin.max_ ats t #[.int k x, .int k y]).run P w = .ok (.int k (bif intLe x y then y else x)) w := by
  have e : (if x < y then y else x) = (bif intLe x y then y else x) := by
    rw [intLe_dec]
    by_cases h : x ≤ y
    · by_cases h' : x < y
      · rw [if_pos h']; simp [h]
      · rw [if_neg h']; simp [h]; omega
    · rw [if_neg (by omega)]; simp [h]
  rw [← e]
  simp [Builtin.max_, Builtin.max2]
theorem builtin_run (hG : Glob P r) {o : Oper} {b : Builtin} {args : Array Operand} {argTypes : Array TypeId} (ho : o.op = .call ⟨.builtin b, args, argTypes⟩) {d : Option Nat} {p : PO} {xs : Xs} {l v : AV} (hc : cBuiltin P o.dst b argTypes.toList args.toList = some (.pure d p xs)) (ha : AgXs r A a xs) (hx : xs.ev A = some l) (hp : p.ev l = some v) :
    (execOp a.eval o).run P w = .ok (.value (conc r v)) w ∧ ok r v ∧ d = o.dst := by
  obtain ⟨args⟩ := args
  obtain ⟨argTypes⟩ := argTypes
  unfold cBuiltin at hc
  split at hc
  · split at hc
    · split at hc
      · obtain ⟨_, h⟩ := bif_some hc; cases h
      · cases hc
    · split at hc
      · obtain ⟨_, h⟩ := bif_some hc; cases h
      · cases hc
    · cases hc
  · rename_i t x e1 e2
    have e1 : argTypes = [t] := e1
    have e2 : args = [x] := e2
    subst e1; subst e2
    split at hc
    · cases hc
    · rename_i y hu hy
      cases hc
      obtain ⟨u, h1, h2, h3⟩ := one_eval (f := poLenS) hG hy ha hx hp
      unfold poLenS at h3
      split at h3 <;> cases h3
      exact ⟨by simp [execOp, ho, resolve, invoke, builtin, h1, Builtin.len_, run_underlying hu, goInt, strOf_size], trivial, rfl⟩
    · rename_i y hu hy
      cases hc
      obtain ⟨u, h1, h2, h3⟩ := one_eval (f := poLen) hG hy ha hx hp
      unfold poLen at h3
      split at h3 <;> cases h3
      all_goals exact ⟨by simp [execOp, ho, resolve, invoke, builtin, h1, Builtin.len_, run_underlying hu, goInt], trivial, rfl⟩
    · cases hc
  · rename_i t x e1 e2
    have e1 : argTypes = [t] := e1
    have e2 : args = [x] := e2
    subst e1; subst e2
    split at hc
    · rename_i y hu hy
      cases hc
      obtain ⟨u, h1, h2, h3⟩ := one_eval (f := poCap) hG hy ha hx hp
      unfold poCap at h3
      split at h3 <;> cases h3
      all_goals exact ⟨by simp [execOp, ho, resolve, invoke, builtin, h1, Builtin.cap_, run_underlying hu, goInt], trivial, rfl⟩
    · cases hc
  · rename_i x y e1
    have e1 : args = [x, y] := e1
    subst e1
    split at hc
    · rename_i x' y' hx' hy'
      cases hc
      obtain ⟨u1, u2, h1, h2, h3, h4, h5⟩ := two_eval (f := poMin) (x1 := x) (x2 := y) hG (by simp [cXs, hx', hy']) ha hx hp
      unfold poMin at h5
      split at h5
      · rename_i k a1 j b1
        cases ek : Nat.beq (kN k) (kN j) with
        | false => rw [ek] at h5; cases h5
        | true =>
          rw [ek] at h5; cases h5
          have := kN_inj ek; subst this
          exact ⟨by simp [execOp, ho, resolve, invoke, builtin, h1, h3, min_run], trivial, rfl⟩
      · cases h5
    · cases hc
  · rename_i x y e1
    have e1 : args = [x, y] := e1
    subst e1
    split at hc
    · rename_i x' y' hx' hy'
      cases hc
      obtain ⟨u1, u2, h1, h2, h3, h4, h5⟩ := two_eval (f := poMax) (x1 := x) (x2 := y) hG (by simp [cXs, hx', hy']) ha hx hp
      unfold poMax at h5
      split at h5
      · rename_i k a1 j b1
        cases ek : Nat.beq (kN k) (kN j) with
        | false => rw [ek] at h5; cases h5
        | true =>
          rw [ek] at h5; cases h5
          have := kN_inj ek; subst this
          exact ⟨by simp [execOp, ho, resolve, invoke, builtin, h1, h3, max_run], trivial, rfl⟩
      · cases h5
    · cases hc
  · cases hc
/-- A pure operation: its value, and the world as it was. -/
theorem pure_run (hG : Glob P r) {o : Oper} {d : Option Nat} {p : PO} {xs : Xs} {l v : AV} (hc : cOp P o = some (.pure d p xs)) (ha : AgXs r A a xs) (hx : xs.ev A = some l) (hp : p.ev l = some v) :
    (execOp a.eval o).run P w = .ok (.value (conc r v)) w ∧ ok r v ∧ d = o.dst := by
  obtain ⟨dst, op, type, pos, after, guard⟩ := o
  cases op <;> simp only [cOp] at hc
  case move x =>
    cases e : cX P x with
    | none => simp [e] at hc
    | some y =>
      simp [e] at hc
      obtain ⟨rfl, rfl, rfl⟩ := hc
      obtain ⟨u, h1, h2, h3⟩ := one_eval (f := some) hG e ha hx hp
      cases h3
      exact ⟨by simp [execOp, h1], h2, rfl⟩
  case assign x =>
    cases e : cX P x with
    | none => simp [e] at hc
    | some y =>
      simp [e] at hc
      obtain ⟨rfl, rfl, rfl⟩ := hc
      obtain ⟨u, h1, h2, h3⟩ := one_eval (f := some) hG e ha hx hp
      cases h3
      exact ⟨by simp [execOp, h1], h2, rfl⟩
  case pick c x y =>
    cases e : cXs P [c, x, y] with
    | none => simp [e] at hc
    | some ys =>
      simp [e] at hc
      obtain ⟨rfl, rfl, rfl⟩ := hc
      obtain ⟨u, t, rfl, h1, h2, h3, h4⟩ := hd_eval hG e ha hx
      have hp : poPick u t = some v := hp
      unfold poPick at hp
      split at hp <;> cases hp
      · simp at h3
        exact ⟨by simp [execOp, h1, asBool, h3.1], h4.1, rfl⟩
      · simp at h3
        exact ⟨by simp [execOp, h1, asBool, h3.2.1], h4.2.1, rfl⟩
  case build t parts =>
    have hvs : ∀ {ys}, cXs P (parts.toList.map (·.2)) = some ys → AgXs r A a ys → ys.ev A = some l → parts.toList.map (fun p => a.eval p.2) = concL r l ∧ ok r l := by
      intro ys h1 h2 h3
      obtain ⟨h4, h5⟩ := cXs_eval hG h1 h3 h2
      exact ⟨by rw [← h4, List.map_map]; rfl, h5⟩
    split at hc
    · rename_i z fields ys ez hu ex
      have hall : (fields.toList.mapM (fun f : Field => (P.info? f.type).map fun i => (f.offset, i.size))).isSome = true := by
        cases e : fields.toList.all fun f : Field => (P.info? f.type).isSome with
        | false => rw [e] at hc; cases hc
        | true => exact mapM_all e
      have hc : (allSome (fun p : Nat × Operand => (fields[p.1]?).bind fun f : Field => (sizeB P f.type).map fun n => (f.offset, n)) parts.toList).map (fun ps => I.pure dst (.build z ps) ys) = some (I.pure d p xs) := by
        cases e : fields.toList.all fun f : Field => (P.info? f.type).isSome with
        | false => rw [e] at hc; cases hc
        | true => rw [e] at hc; exact hc
      cases ep : allSome (fun p : Nat × Operand => (fields[p.1]?).bind fun f : Field => (sizeB P f.type).map fun n => (f.offset, n)) parts.toList with
      | none => simp [ep] at hc
      | some ps =>
        simp [ep] at hc
        obtain ⟨rfl, rfl, rfl⟩ := hc
        obtain ⟨h1, h2⟩ := hvs ex ha hx
        have hp : (@Option.rec AV (fun _ => Option AV) none (fun c => some (.ag c)) (fillB ps z.cells l)) = some v := hp
        cases ef : fillB ps z.cells l with
        | none => rw [ef] at hp; cases hp
        | some c =>
          rw [ef] at hp
          cases hp
          obtain ⟨hrun, h3, h4⟩ := build_struct (w := w) ez hu ep hall h1 h2 ef
          exact ⟨by simp only [execOp]; exact run_v hrun, ⟨h3, h4⟩, rfl⟩
    · rename_i z n e ys ez hu ex
      cases es : sizeB P e with
      | none => simp [es] at hc
      | some size =>
        simp [es] at hc
        obtain ⟨rfl, rfl, rfl⟩ := hc
        obtain ⟨h1, h2⟩ := hvs ex ha hx
        have hp : (@Option.rec AV (fun _ => Option AV) none (fun c => some (.ag c)) (fillB (parts.toList.map fun p => (p.1 * size, size)) z.cells l)) = some v := hp
        cases ef : fillB (parts.toList.map fun p => (p.1 * size, size)) z.cells l with
        | none => rw [ef] at hp; cases hp
        | some c =>
          rw [ef] at hp
          cases hp
          obtain ⟨hrun, h3, h4⟩ := build_array (w := w) ez hu es h1 h2 ef
          exact ⟨by simp only [execOp]; exact run_v hrun, ⟨h3, h4⟩, rfl⟩
    · cases hc
  case nilCheck x =>
    cases e : cX P x with
    | none => simp [e] at hc
    | some y =>
      simp [e] at hc
      obtain ⟨rfl, rfl, rfl⟩ := hc
      obtain ⟨u, h1, h2, h3⟩ := one_eval (f := poNil) hG e ha hx hp
      unfold poNil at h3
      split at h3 <;> cases h3
      rename_i n1 n2 n3
      refine ⟨?_, h2, rfl⟩
      cases v <;> first | exact absurd rfl n1 | exact absurd rfl n2 | exact absurd rfl n3 | (simp only [execOp, h1]; rfl)
  case binOp op t x y yt =>
    cases e : cXs P [x, y] with
    | none => simp [e] at hc
    | some ys =>
      rw [e] at hc
      have hq : (op = .eql ∨ op = .neq) ∨ (op ≠ .eql ∧ op ≠ .neq) := by cases op <;> simp
      rcases hq with hq | hq
      · obtain ⟨neg, ek, hop, hk, rfl, rfl, rfl⟩ : ∃ neg ek, op = (bif neg then .neq else .eql) ∧ ekOf P t = some ek ∧ d = dst ∧ p = .eqv neg ek ∧ xs = ys := by
          rcases hq with rfl | rfl
          · cases h : ekOf P t with
            | none => simp [h] at hc
            | some k => simp [h] at hc; exact ⟨false, k, rfl, rfl, hc.1.symm, hc.2.1.symm, hc.2.2.symm⟩
          · cases h : ekOf P t with
            | none => simp [h] at hc
            | some k => simp [h] at hc; exact ⟨true, k, rfl, rfl, hc.1.symm, hc.2.1.symm, hc.2.2.symm⟩
        obtain ⟨u1, u2, h1, h2, h3, h4, h5⟩ := two_eval (f := poEqv neg ek) hG e ha hx hp
        obtain ⟨h6, h7⟩ := eqv_po (w := w) hk h2 h4 h5 x y
        refine ⟨?_, h7, rfl⟩
        subst hop
        simp only [execOp, h1, h3]
        exact run_v h6
      · have hc : some (I.pure dst (.bin op) ys) = some (I.pure d p xs) := by
          rw [← hc]; cases op <;> first | rfl | (exact absurd rfl hq.1) | (exact absurd rfl hq.2)
        cases hc
        obtain ⟨u1, u2, h1, h2, h3, h4, h5⟩ := two_eval (f := binB op) hG e ha hx hp
        have hrun : (binOp op t (conc r u1) (conc r u2)).run P w = .ok (conc r v) w ∧ ok r v := by
          unfold binB at h5
          split at h5
          · rename_i k a j b
            refine run_binI op k a b t (j := j) ?_ ?_
            · cases hk : Nat.beq (kN k) (kN j) with
              | true => exact .inl rfl
              | false =>
                rw [hk] at h5
                cases hs : isShift op with
                | true => exact .inr rfl
                | false =>
                  have h5 : (@Bool.rec (fun _ => Option AV) none (binI op k a b) (isShift op)) = some v := h5
                  rw [hs] at h5; cases h5
            · cases hk : Nat.beq (kN k) (kN j) with
              | true => rw [hk] at h5; exact h5
              | false =>
                rw [hk] at h5
                have h5 : (@Bool.rec (fun _ => Option AV) none (binI op k a b) (isShift op)) = some v := h5
                cases hs : isShift op with
                | true => rw [hs] at h5; exact h5
                | false => rw [hs] at h5; cases h5
          · exact run_binS op t h2 h4 h5
          · cases h5
        refine ⟨?_, hrun.2, rfl⟩
        simp only [execOp, h1, h3]
        refine run_v ?_
        have hg : (eqGuard op t x y (conc r u1) (conc r u2)).run P w = .ok () w := by
          cases op <;> first | (exact absurd rfl hq.1) | (exact absurd rfl hq.2) | rfl
        simp [hg, hrun.1]
  case unOp op t x =>
    cases e : cX P x with
    | none => simp [e] at hc
    | some y =>
      simp [e] at hc
      obtain ⟨rfl, rfl, rfl⟩ := hc
      obtain ⟨u, h1, h2, h3⟩ := one_eval (f := unB op) hG e ha hx hp
      obtain ⟨h4, h5⟩ := run_unB (P := P) (w := w) h2 h3
      refine ⟨?_, h5, rfl⟩
      simp only [execOp, h1]
      exact run_v h4
  case convert src dt x =>
    split at hc
    · rename_i k1 k y hs hd hy
      cases hc
      obtain ⟨u, h1, h2, h3⟩ := one_eval (f := poWrap k) hG hy ha hx hp
      unfold poWrap at h3
      split at h3 <;> cases h3
      refine ⟨?_, trivial, rfl⟩
      simp only [execOp, h1]
      refine run_v ?_
      simp [convert, run_underlying hs, run_underlying hd, Conv.intToInt, wrapB_eq]
    · rename_i y hs hd hy
      cases hc
      obtain ⟨u, h1, h2, h3⟩ := one_eval (f := poStr) hG hy ha hx hp
      unfold poStr at h3
      split at h3 <;> cases h3
      refine ⟨?_, h2, rfl⟩
      simp only [execOp, h1]
      refine run_v ?_
      simp [convert, run_underlying hs, run_underlying hd]
    · split at hc <;> cases hc
    · cases hc
  case makeInterface t x =>
    cases e : cX P x with
    | none => simp [e] at hc
    | some y =>
      rw [e] at hc
      cases ec : P.concrete t with
      | false => rw [ec] at hc; simp at hc
      | true =>
        rw [ec] at hc
        simp at hc
        obtain ⟨rfl, rfl, rfl⟩ := hc
        obtain ⟨u, h1, h2, h3⟩ := one_eval (f := fun v => some (.ifc t v)) hG e ha hx hp
        cases h3
        refine ⟨?_, h2, rfl⟩
        simp only [execOp, h1]
        exact run_v (run_makeInterface w t _ ec)
  case makeFunc fn first captured =>
    cases fn with
    | func f =>
      have hc : (if first.isEmpty = true then Option.map (fun l => I.pure dst (PO.mkf f) l) (cXs P captured.toList) else none) = some (I.pure d p xs) := hc
      by_cases hf : first.isEmpty = true
      · rw [if_pos hf] at hc
        cases e : cXs P captured.toList with
        | none => simp [e] at hc
        | some ys =>
          simp [e] at hc
          obtain ⟨rfl, rfl, rfl⟩ := hc
          obtain ⟨h1, h2⟩ := cXs_eval hG e hx ha
          have hp : some (AV.f f l) = some v := hp
          cases hp
          refine ⟨?_, h2, rfl⟩
          simp only [execOp]
          refine run_v ?_
          have hfe : first = #[] := by simpa using hf
          have hce : captured.map a.eval = (concL r l).toArray := Array.ext' (by rw [Array.toList_map, h1])
          simp [Instr.makeFunc, hfe, hce]
      · rw [if_neg hf] at hc; cases hc
    | _ => cases hc
  case slice t x lo hi mx =>
    cases mx with
    | some _ => simp at hc
    | none =>
      simp only at hc
      split at hc
      · rename_i ys hu e
        cases hc
        obtain ⟨u, tl, rfl, h1, h2, h3, h4⟩ := hd_eval hG e ha hx
        have hp : sliceS u lo.isSome hi.isSome tl = some v := hp
        unfold sliceS at hp
        split at hp
        · cases eb : boundsOf lo.isSome hi.isSome tl with
          | none => simp [eb] at hp
          | some p =>
            simp [eb] at hp
            obtain ⟨h5, h6⟩ := strPart_run (w := w) hu h2 h3 eb hp
            refine ⟨?_, h6, rfl⟩
            simp only [execOp, h1]
            refine run_v ?_
            simp only [Instr.sliceAt, Sem.run_bind, run_underlying hu, Result.andThen_ok, Option.map_none]
            exact h5
        · cases hp
      · rename_i elem ys hu e
        cases es : sizeB P elem with
        | none => simp [es] at hc
        | some size =>
          simp [es] at hc
          obtain ⟨rfl, rfl, rfl⟩ := hc
          obtain ⟨u, tl, rfl, h1, h2, h3, h4⟩ := hd_eval hG e ha hx
          have hp : sliceG size lo.isSome hi.isSome u tl = some v := hp
          unfold sliceG at hp
          cases eb : boundsOf lo.isSome hi.isSome tl with
          | none => simp [eb] at hp
          | some p =>
            simp [eb] at hp
            obtain ⟨h5, h6⟩ := sliceOf_run (w := w) hu es h2 h3 eb hp
            refine ⟨?_, h6, rfl⟩
            simp only [execOp, h1]
            refine run_v ?_
            simp only [Instr.sliceAt, Sem.run_bind, run_underlying hu, Result.andThen_ok, Option.map_none]
            exact h5
      · rename_i n elem ys hu e
        cases es : sizeB P elem with
        | none => simp [es] at hc
        | some size =>
          simp [es] at hc
          obtain ⟨rfl, rfl, rfl⟩ := hc
          obtain ⟨u, tl, rfl, h1, h2, h3, h4⟩ := hd_eval hG e ha hx
          have hp : sliceAr n size lo.isSome hi.isSome u tl = some v := hp
          unfold sliceAr at hp
          split at hp
          · rename_i id off
            cases eb : boundsOf lo.isSome hi.isSome tl with
            | none => simp [eb] at hp
            | some p =>
              simp only [eb, Option.bind_some] at hp
              cases ec : (p.1.ble (p.2.getD n) && (p.2.getD n).ble n) with
              | false => rw [ec] at hp; cases hp
              | true =>
                rw [ec] at hp
                cases hp
                simp only [Bool.and_eq_true, Nat.ble_eq] at ec
                refine ⟨?_, ⟨h2, by omega⟩, rfl⟩
                have hb' := bounds_run (P := P) (w := w) h3 eb false (len := n) (cap := n) ec.1 (.inl ec.2)
                simp only [execOp, h1]
                refine run_v ?_
                simp only [Instr.sliceAt, Sem.run_bind, run_underlying hu, Result.andThen_ok, conc_p, Instr.sureAddr, Sem.run_pure, Option.map_none, hb', sizeB_run es, conc_sl]
                cases e2 : n.beq p.1 with
                | true =>
                  have : n = p.1 := by simpa using e2
                  simp [this]
                | false =>
                  have : n ≠ p.1 := by intro h; rw [h] at e2; simp at e2
                  simp [this, addr_add0]
          · cases hp
      · cases hc
  case fieldAddr t x k =>
    split at hc
    · rename_i fields y hu hy
      cases ef : fields[k]? with
      | none => simp [ef] at hc
      | some f =>
        simp only [ef, Option.bind_some] at hc
        split at hc
        · rename_i n hn
          cases hc
          obtain ⟨u, h1, h2, h3⟩ := one_eval (f := poFa f.offset) hG hy ha hx hp
          unfold poFa at h3
          split at h3 <;> cases h3
          refine ⟨?_, h2, rfl⟩
          simp only [execOp, h1]
          refine run_v ?_
          simp [Instr.fieldAt, run_underlying hu, ef, Instr.sureAddr, fieldPlace, sizeB_run hn, addr_add0]
        · cases hc
    · cases hc
  case field t x k =>
    split at hc
    · rename_i fields y hu hy
      cases ef : fields[k]? with
      | none => simp [ef] at hc
      | some f =>
        simp only [ef] at hc
        split at hc
        · rename_i g sz hg hn
          cases hc
          obtain ⟨u, h1, h2, h3⟩ := one_eval (f := poPart f.offset g sz) hG hy ha hx hp
          unfold poPart at h3
          split at h3
          · rename_i cs
            obtain ⟨h4, h5⟩ := partB_run (w := w) hg hn h2.1 h2.2 h3
            refine ⟨?_, h5, rfl⟩
            simp only [execOp, h1]
            refine run_v ?_
            simp [Instr.field, run_underlying hu, ef, asAgg, h4]
          · cases h3
        · cases hc
    · cases hc
  case indexAddr t x ix =>
    split at hc
    · rename_i n elem ys hu e
      cases es : sizeB P elem with
      | none => simp [es] at hc
      | some size =>
        simp [es] at hc
        obtain ⟨rfl, rfl, rfl⟩ := hc
        obtain ⟨u1, u2, h1, h2, h3, h4, h5⟩ := two_eval (f := poIaA n size) hG e ha hx hp
        unfold poIaA at h5
        split at h5
        · obtain ⟨h6, rfl⟩ := at_run h5
          refine ⟨?_, h2, rfl⟩
          simp only [execOp, h1, h3]
          exact run_v (indexAt_array hu es h6)
        · cases h5
    · rename_i elem ys hu e
      cases es : sizeB P elem with
      | none => simp [es] at hc
      | some size =>
        simp [es] at hc
        obtain ⟨rfl, rfl, rfl⟩ := hc
        obtain ⟨u1, u2, h1, h2, h3, h4, h5⟩ := two_eval (f := poIa size) hG e ha hx hp
        unfold poIa at h5
        split at h5
        · obtain ⟨h6, rfl⟩ := at_run h5
          refine ⟨?_, h2.1, rfl⟩
          simp only [execOp, h1, h3]
          exact run_v (indexAt_slice hu es h6)
        · obtain ⟨h6, rfl⟩ := at_run h5
          refine ⟨?_, h2.1, rfl⟩
          simp only [execOp, h1, h3]
          exact run_v (indexAt_slice hu es h6)
        · cases h5
    · cases hc
  case index t x ix =>
    split at hc
    · rename_i n elem ys hu e
      split at hc
      · rename_i size g es eg
        cases hc
        obtain ⟨u1, u2, h1, h2, h3, h4, h5⟩ := two_eval (f := poIxA n size g) hG e ha hx hp
        unfold poIxA at h5
        split at h5
        · rename_i cs kd k
          cases ek : k.blt n with
          | false => rw [ek] at h5; cases h5
          | true =>
            rw [ek] at h5
            have hk : k < n := by simp [Nat.blt] at ek; omega
            obtain ⟨h6, h7⟩ := partB_run (w := w) eg es h2.1 h2.2 h5
            refine ⟨?_, h7, rfl⟩
            simp only [execOp, h1, h3]
            refine run_v ?_
            have hkk : (0 : Int) ≤ (k : Int) ∧ (k : Int) < (n : Int) := by omega
            simp only [Instr.index, conc_i, conc_ag, asIntOf, Sem.run_bind, Sem.run_pure, Result.andThen_ok, run_underlying hu, Int.ofNat_eq_natCast, if_pos hkk, sizeB_run es, Int.toNat_natCast, h6]
        · cases h5
      · cases hc
    · rename_i ys hu e
      cases hc
      obtain ⟨u1, u2, h1, h2, h3, h4, h5⟩ := two_eval (f := poIxS) hG e ha hx hp
      unfold poIxS at h5
      split at h5
      · rename_i s kd k
        cases en : nthN s k with
        | none => simp [en] at h5
        | some n =>
          simp [en] at h5
          subst h5
          have hg := nthN_get en
          refine ⟨?_, trivial, rfl⟩
          simp only [execOp, h1, h3]
          refine run_v ?_
          have hn : n < 256 := h2 n (List.mem_of_getElem? hg)
          have hb : (strOf s)[k]? = some (UInt8.ofNat n) := by
            have hlt : k < s.length := (List.getElem?_eq_some_iff.1 hg).1
            rw [getElem?_pos (strOf s) k (by rw [strOf_size]; exact hlt)]
            have : s[k] = n := by have := List.getElem?_eq_some_iff.1 hg; exact this.2
            congr 1
            have hz : k < (strOf s).data.size := by simpa [strOf] using hlt
            show (strOf s).data[k]'hz = _
            simp [strOf, this]
          simp only [Instr.index, conc_i, conc_s, asIntOf, Sem.run_bind, Sem.run_pure, Result.andThen_ok, run_underlying hu, Int.ofNat_eq_natCast]
          simp [hb, Nat.mod_eq_of_lt hn]
      · cases h5
    · cases hc
  case extract t k =>
    cases e : cX P t with
    | none => simp [e] at hc
    | some y =>
      simp [e] at hc
      obtain ⟨rfl, rfl, rfl⟩ := hc
      obtain ⟨u, h1, h2, h3⟩ := one_eval (f := poExt k) hG e ha hx hp
      unfold poExt at h3
      split at h3
      · refine ⟨?_, ok_nth h3 h2, rfl⟩
        simp only [execOp, h1]
        refine run_v ?_
        simp [Instr.extract, nth_concL h3]
      · cases h3
  case call c =>
    obtain ⟨callee, args, argTypes⟩ := c
    cases callee with
    | value f => simp only at hc; split at hc <;> cases hc
    | invoke => simp at hc
    | builtin b =>
      exact builtin_run hG (o := ⟨dst, .call ⟨.builtin b, args, argTypes⟩, type, pos, after, guard⟩) rfl hc ha hx hp
  case panic x =>
    cases hc
    have e : (Xs.cons (X.c AV.pn) Xs.nil).ev A = some (.cons .pn .nil) := rfl
    rw [e] at hx; cases hx; cases hp
  case typeAssert x t u k =>
    cases hc
    have e : (Xs.cons (X.c AV.pn) Xs.nil).ev A = some (.cons .pn .nil) := rfl
    rw [e] at hx; cases hx; cases hp
  case makeMap t m => cases m <;> cases hc
  all_goals try (cases hc; done)
  all_goals try (simp at hc; done)
  all_goals try (split at hc <;> first | (cases hc; done) | (simp at hc; done) | (split at hc <;> first | (cases hc; done) | (simp at hc; done) | (obtain ⟨_, h⟩ := bif_some hc; cases h)))
end
end Go.Ev
end

section
namespace Go.Ev
open Go Go.RowKit

/-! Memory, and what of it is known -/
abbrev Hf := Nat → Option AO
def RowAt (r : Rho) (w : World) (b K m : Nat) (kn : Bool) (tp : Nat) (c : Tr AV) : Prop :=
  ∃ cs ty fr, w.heap[b]? = some (.cells cs ty fr) ∧ (∀ i, i < cs.size → ¬(fr.1 ≤ i ∧ i < fr.2)) ∧ cs.size = (bif kn then m else K * m) ∧ ∀ i v, c.get i = some v → ok r v ∧ scB v = true ∧ cs[i]? = some (conc r v) ∧ (kn = false → i < tp)
def MapAt (r : Rho) (w : World) (b : Nat) (es : List (AV × AV)) : Prop :=
  ∃ ent clock, w.heap[b]? = some (.map ent clock) ∧ ent.toList.map (fun e => (e.key, e.val)) = es.map (fun e => (conc r e.1, conc r e.2)) ∧ (∀ e ∈ es, ok r e.1 ∧ ok r e.2) ∧ MapKept.Stamped ent clock
structure Rel (P : Program) (r : Rho) (H : Hf) (w : World) : Prop where
  glob : Glob P r
  row : ∀ id m kn tp c b K, H id = some (.row m kn tp c) → r id = some (b, K) → RowAt r w b K m kn tp c
  map : ∀ id es b K, H id = some (.map es) → r id = some (b, K) → MapAt r w b es
  inj : ∀ id id' o o' p p', H id = some o → H id' = some o' → r id = some p → r id' = some p' → p.1 = p'.1 → id = id'
/-- From world to world: only known blocks have turned; new names are of [n, n'). -/
def KeepK (w w' : World) : Prop := ∀ (b : Nat) (cs : Array Value) (ty : TypeId) (fr : Nat × Nat), w.heap[b]? = some (.cells cs ty fr) → ∃ cs' : Array Value, cs'.size = cs.size ∧ w'.heap[b]? = some (.cells cs' ty fr)
theorem KeepK.refl (w : World) : KeepK w w := fun _ cs _ _ h => ⟨cs, rfl, h⟩
theorem KeepK.trans {w w1 w2 : World} (h : KeepK w w1) (k : KeepK w1 w2) : KeepK w w2 := fun b cs ty fr e => by
  obtain ⟨c1, s1, e1⟩ := h b cs ty fr e
  obtain ⟨c2, s2, e2⟩ := k b c1 ty fr e1
  exact ⟨c2, s2.trans s1, e2⟩
theorem KeepK.of {w w' : World} (h : ∀ b, b < w.heap.size → w'.heap[b]? = w.heap[b]?) : KeepK w w' := fun b cs ty fr e => by
  have hb : b < w.heap.size := by
    rcases Nat.lt_or_ge b w.heap.size with h' | h'
    · exact h'
    · rw [Array.getElem?_eq_none h'] at e; cases e
  exact ⟨cs, rfl, (h b hb).trans e⟩
theorem KeepK.one {w w' : World} {g : Nat} (h : ∀ b, b < w.heap.size → b ≠ g → w'.heap[b]? = w.heap[b]?) (hg : ∀ cs ty fr, w.heap[g]? = some (.cells cs ty fr) → ∃ cs' : Array Value, cs'.size = cs.size ∧ w'.heap[g]? = some (.cells cs' ty fr)) : KeepK w w' := fun b cs ty fr e => by
  by_cases hbg : b = g
  · subst hbg; exact hg cs ty fr e
  · have hb : b < w.heap.size := by
      rcases Nat.lt_or_ge b w.heap.size with h' | h'
      · exact h'
      · rw [Array.getElem?_eq_none h'] at e; cases e
    exact ⟨cs, rfl, (h b hb hbg).trans e⟩
structure Stp (r : Rho) (H : Hf) (n : Nat) (w : World) (r' : Rho) (H' : Hf) (n' : Nat) (w' : World) : Prop where
  os : w'.os = w.os ∧ KeepK w w'
  tape : w'.tape = w.tape
  output : w'.output = w.output
  size : w.heap.size ≤ w'.heap.size
  ext : Ext r r'
  dom : ∀ id, (r' id).isSome = true → (r id).isSome = true ∨ (n ≤ id ∧ id < n')
  keep : ∀ b, b < w.heap.size → (∀ id o p, H id = some o → r id = some p → p.1 ≠ b) → w'.heap[b]? = w.heap[b]?
  new : ∀ id o p, H' id = some o → r' id = some p → w.heap.size ≤ p.1 ∨ ∃ id0 o0 p0, H id0 = some o0 ∧ r id0 = some p0 ∧ p0.1 = p.1
  le : n ≤ n'
section
variable {P : Program} {r r' r'' : Rho} {H H' H'' : Hf} {w w' w'' : World} {n n' n'' : Nat}
theorem RowAt.lt {b K m tp : Nat} {kn : Bool} {c : Tr AV} (h : RowAt r w b K m kn tp c) : b < w.heap.size := by
  obtain ⟨cs, ty, fr, h1, _⟩ := h
  rcases Nat.lt_or_ge b w.heap.size with h | h
  · exact h
  · rw [Array.getElem?_eq_none h] at h1; cases h1
theorem MapAt.lt {b : Nat} {es : List (AV × AV)} (h : MapAt r w b es) : b < w.heap.size := by
  obtain ⟨cs, ty, h1, _⟩ := h
  rcases Nat.lt_or_ge b w.heap.size with h | h
  · exact h
  · rw [Array.getElem?_eq_none h] at h1; cases h1
theorem RowAt.keep {b K m tp : Nat} {kn : Bool} {c : Tr AV} (h : RowAt r w b K m kn tp c) (he : Ext r r') (hb : w'.heap[b]? = w.heap[b]?) : RowAt r' w' b K m kn tp c := by
  obtain ⟨cs, ty, fr, h1, h2, h3, h4⟩ := h
  refine ⟨cs, ty, fr, hb.trans h1, h2, h3, fun i v hv => ?_⟩
  obtain ⟨h5, h6, h7, h8⟩ := h4 i v hv
  exact ⟨ok_ext he h5, h6, by rw [conc_ext he h5]; exact h7, h8⟩
theorem MapAt.keep {b : Nat} {es : List (AV × AV)} (h : MapAt r w b es) (he : Ext r r') (hb : w'.heap[b]? = w.heap[b]?) : MapAt r' w' b es := by
  obtain ⟨ent, clock, h1, h2, h3, hst⟩ := h
  refine ⟨ent, clock, hb.trans h1, ?_, fun e he' => ⟨ok_ext he (h3 e he').1, ok_ext he (h3 e he').2⟩, hst⟩
  rw [h2]
  apply List.map_congr_left
  intro e hm
  rw [conc_ext he (h3 e hm).1, conc_ext he (h3 e hm).2]
theorem Rel.lt (h : Rel P r H w) {id : Nat} {o : AO} {p : Nat × Nat} (ho : H id = some o) (hp : r id = some p) : p.1 < w.heap.size := by
  obtain ⟨b, K⟩ := p
  cases o with
  | row m kn tp c => exact (h.row _ _ _ _ _ _ _ ho hp).lt
  | map es => exact (h.map _ _ _ _ ho hp).lt
theorem Rel.sub (h : Rel P r H w) (hs : ∀ id o, H' id = some o → H id = some o) : Rel P r H' w :=
  ⟨h.glob, fun id m kn tp c b K h1 h2 => h.row id m kn tp c b K (hs _ _ h1) h2, fun id es b K h1 h2 => h.map id es b K (hs _ _ h1) h2,
   fun id id' o o' p p' h1 h2 h3 h4 h5 => h.inj id id' o o' p p' (hs _ _ h1) (hs _ _ h2) h3 h4 h5⟩
/-- A world in which the known blocks are as they were. -/
theorem Rel.same (h : Rel P r H w) (hb : ∀ id o p, H id = some o → r id = some p → w'.heap[p.1]? = w.heap[p.1]?) : Rel P r H w' :=
  ⟨h.glob, fun id m kn tp c b K h1 h2 => (h.row id m kn tp c b K h1 h2).keep (Ext.refl r) (hb id _ (b, K) h1 h2), fun id es b K h1 h2 => (h.map id es b K h1 h2).keep (Ext.refl r) (hb id _ (b, K) h1 h2), h.inj⟩
theorem Stp.refl (r : Rho) (H : Hf) (n : Nat) (w : World) : Stp r H n w r H n w :=
  ⟨⟨rfl, KeepK.refl w⟩, rfl, rfl, Nat.le_refl _, Ext.refl r, fun _ h => .inl h, fun _ _ _ => rfl, fun id o p h1 h2 => .inr ⟨id, o, p, h1, h2, rfl⟩, Nat.le_refl _⟩
theorem Stp.trans (h : Stp r H n w r' H' n' w') (k : Stp r' H' n' w' r'' H'' n'' w'') : Stp r H n w r'' H'' n'' w'' := by
  have := h.le
  have := k.le
  refine ⟨⟨k.os.1.trans h.os.1, h.os.2.trans k.os.2⟩, k.tape.trans h.tape, k.output.trans h.output, Nat.le_trans h.size k.size, h.ext.trans k.ext, ?_, ?_, ?_, Nat.le_trans h.le k.le⟩
  · intro id hid
    rcases k.dom id hid with h1 | h1
    · rcases h.dom id h1 with h2 | h2
      · exact .inl h2
      · exact .inr (by omega)
    · exact .inr (by omega)
  · intro b hb hn
    have h1 := h.keep b hb hn
    refine (k.keep b (Nat.lt_of_lt_of_le hb h.size) ?_).trans h1
    intro id o p ho hp e
    rcases h.new id o p ho hp with h2 | ⟨id0, o0, p0, h3, h4, h5⟩
    · omega
    · exact hn id0 o0 p0 h3 h4 (h5.trans e)
  · intro id o p ho hp
    rcases k.new id o p ho hp with h1 | ⟨id0, o0, p0, h3, h4, h5⟩
    · exact .inl (Nat.le_trans h.size h1)
    · rcases h.new id0 o0 p0 h3 h4 with h6 | ⟨id1, o1, p1, h7, h8, h9⟩
      · exact .inl (by omega)
      · exact .inr ⟨id1, o1, p1, h7, h8, h9.trans h5⟩
/-- Fewer blocks were known than are. -/
theorem Stp.wide (h : Stp r H n w r' H' n' w') (hs : ∀ id o, H id = some o → H'' id = some o) : Stp r H'' n w r' H' n' w' :=
  ⟨h.os, h.tape, h.output, h.size, h.ext, h.dom, fun b hb hn => h.keep b hb fun id o p h1 h2 => hn id o p (hs _ _ h1) h2,
   fun id o p h1 h2 => (h.new id o p h1 h2).imp_right fun ⟨id0, o0, p0, h3, h4, h5⟩ => ⟨id0, o0, p0, hs _ _ h3, h4, h5⟩, h.le⟩
/-- A draw. -/
theorem Stp.drew (h : Stp r H n w r' H' n' w') : Stp r H n w r' H' n' w'.drew := ⟨h.os, h.tape, h.output, h.size, h.ext, h.dom, h.keep, h.new, h.le⟩
theorem Rel.drew (h : Rel P r H w) : Rel P r H w.drew := ⟨h.glob, h.row, h.map, h.inj⟩

/-! Chains and tries -/
theorem nth_zero (h t : AV) : AV.nth 0 (.cons h t) = some h := rfl
theorem nth_succ (k : Nat) (h t : AV) : AV.nth (k + 1) (.cons h t) = AV.nth k t := rfl
theorem setCells_cons (h l : AV) (t : Tr AV) (i : Nat) : setCells (.cons h l) t i = setCells l (t.set i h) (i + 1) := rfl
theorem setCells_get : ∀ {vs : AV} {t : Tr AV} {i j : Nat} {v : AV}, (setCells vs t i).get j = some v → (∃ k, k < vs.len ∧ j = i + k ∧ AV.nth k vs = some v) ∨ (t.get j = some v ∧ (j < i ∨ i + vs.len ≤ j))
  | .cons h l, t, i, j, v, e => by
    rw [setCells_cons] at e
    rcases setCells_get e with ⟨k, h1, h2, h3⟩ | ⟨h1, h2⟩
    · exact .inl ⟨k + 1, by simp; omega, by omega, h3⟩
    · rcases Tr.get_set h1 with ⟨h3, rfl⟩ | ⟨h3, h4⟩
      · exact .inl ⟨0, by simp, by omega, rfl⟩
      · exact .inr ⟨h4, by simp; omega⟩
  | .nil, _, _, _, _, e | .b _, _, _, _, _, e | .i _ _, _, _, _, _, e | .s _, _, _, _, _, e | .p _ _, _, _, _, _, e | .pn, _, _, _, _, e | .sl _ _ _ _, _, _, _, _, e | .su _ _ _ _, _, _, _, _, e | .sn, _, _, _, _, e | .m _, _, _, _, _, e | .mn, _, _, _, _, e | .f _ _, _, _, _, _, e | .fn, _, _, _, _, e | .ifc _ _, _, _, _, _, e | .ifn, _, _, _, _, e | .ag _, _, _, _, _, e | .tu _, _, _, _, _, e =>
    .inr ⟨e, by have := Nat.lt_or_ge; first | (show _ ∨ _ ≤ _); exact Nat.lt_or_ge _ _⟩
theorem flat_nth : ∀ {k : Nat} {l v : AV}, flat l → AV.nth k l = some v → scB v = true
  | k, l, v, hf, h => by
    unfold AV.nth at h
    have h1 := hd_some h
    have h2 := flat_drop k hf
    rw [h1] at h2
    exact h2.1
theorem nth_app_left : ∀ {k : Nat} {x l : AV}, k < x.len → AV.nth k (x.app l) = AV.nth k x
  | 0, .cons h t, l, _ => rfl
  | k + 1, .cons h t, l, hk => by
    have e : (AV.cons h t).app l = .cons h (t.app l) := rfl
    rw [e, nth_succ, nth_succ]
    exact nth_app_left (by simpa using hk)
  | _, .nil, _, hk | _, .b _, _, hk | _, .i _ _, _, hk | _, .s _, _, hk | _, .p _ _, _, hk | _, .pn, _, hk | _, .sl _ _ _ _, _, hk | _, .su _ _ _ _, _, hk | _, .sn, _, hk | _, .m _, _, hk | _, .mn, _, hk | _, .f _ _, _, hk | _, .fn, _, hk | _, .ifc _ _, _, hk | _, .ifn, _, hk | _, .ag _, _, hk | _, .tu _, _, hk => absurd hk (Nat.not_lt_zero _)
theorem nth_app_right : ∀ {x l : AV} {k : Nat}, AV.nth (x.len + k) (x.app l) = AV.nth k l
  | .cons h t, l, k => by
    have e : (AV.cons h t).app l = .cons h (t.app l) := rfl
    rw [e, len_cons, show t.len + 1 + k = (t.len + k) + 1 by omega, nth_succ]
    exact nth_app_right
  | .nil, l, k | .b _, l, k | .i _ _, l, k | .s _, l, k | .p _ _, l, k | .pn, l, k | .sl _ _ _ _, l, k | .su _ _ _ _, l, k | .sn, l, k | .m _, l, k | .mn, l, k | .f _ _, l, k | .fn, l, k | .ifc _ _, l, k | .ifn, l, k | .ag _, l, k | .tu _, l, k => by
    show AV.nth (0 + k) l = _
    rw [Nat.zero_add]
theorem nth_lt : ∀ {k : Nat} {x v : AV}, AV.nth k x = some v → k < x.len
  | 0, .cons h t, v, _ => by simp
  | k + 1, .cons h t, v, e => by
    rw [nth_succ] at e
    have := nth_lt e
    simp; omega
  | k, .nil, v, e | k, .b _, v, e | k, .i _ _, v, e | k, .s _, v, e | k, .p _ _, v, e | k, .pn, v, e | k, .sl _ _ _ _, v, e | k, .su _ _ _ _, v, e | k, .sn, v, e | k, .m _, v, e | k, .mn, v, e | k, .f _ _, v, e | k, .fn, v, e | k, .ifc _ _, v, e | k, .ifn, v, e | k, .ag _, v, e | k, .tu _, v, e => by
    have h := nth_concL (r := fun _ => none) e
    simp [concL, cz] at h
theorem getCells_succ (t : Tr AV) (n i : Nat) : getCells t (n + 1) i = consO (t.get i) (getCells t n (i + 1)) := rfl
theorem getCells_some : ∀ {n i : Nat} {t : Tr AV} {l : AV}, getCells t n i = some l → l.len = n ∧ ∀ k, k < n → ∃ v, t.get (i + k) = some v ∧ AV.nth k l = some v
  | 0, i, t, l, h => by
    have : some AV.nil = some l := h
    cases this
    exact ⟨rfl, fun k hk => absurd hk (Nat.not_lt_zero k)⟩
  | n + 1, i, t, l, h => by
    rw [getCells_succ] at h
    obtain ⟨x, y, h1, h2, rfl⟩ := consO_some h
    obtain ⟨h3, h4⟩ := getCells_some h2
    refine ⟨by simp [h3], fun k hk => ?_⟩
    cases k with
    | zero => exact ⟨x, h1, rfl⟩
    | succ k =>
      obtain ⟨v, h5, h6⟩ := h4 k (by omega)
      exact ⟨v, by rw [← h5]; congr 1; omega, h6⟩
theorem getCells_flat {r : Rho} : ∀ {n i : Nat} {t : Tr AV} {l : AV}, getCells t n i = some l → (∀ j v, t.get j = some v → ok r v ∧ scB v = true) → ok r l ∧ flat l
  | 0, i, t, l, h, _ => by
    have : some AV.nil = some l := h
    cases this
    exact ⟨trivial, trivial⟩
  | n + 1, i, t, l, h, ht => by
    rw [getCells_succ] at h
    obtain ⟨x, y, h1, h2, rfl⟩ := consO_some h
    obtain ⟨h3, h4⟩ := getCells_flat h2 ht
    exact ⟨⟨(ht _ _ h1).1, h3⟩, (ht _ _ h1).2, h4⟩

/-! Cells of a known row -/
theorem RowAt.cell {b K m tp : Nat} {kn : Bool} {c : Tr AV} (h : RowAt r w b K m kn tp c) {i : Nat} {v : AV} (hv : c.get i = some v) : w.cell? ⟨b, i, none⟩ = some (conc r v) := by
  obtain ⟨cs, ty, fr, h1, _, _, h4⟩ := h
  simp [World.cell?, h1, (h4 i v hv).2.2.1]
theorem RowAt.frozen {b K m tp : Nat} {kn : Bool} {c : Tr AV} (h : RowAt r w b K m kn tp c) {i : Nat} (hv : (w.cell? ⟨b, i, none⟩).isSome = true) : w.frozen? ⟨b, i, none⟩ = false := by
  obtain ⟨cs, ty, fr, h1, h2, _, _⟩ := h
  simp only [World.cell?, h1] at hv
  simp only [World.frozen?, h1]
  have hi : i < cs.size := by
    rcases Nat.lt_or_ge i cs.size with h | h
    · exact h
    · simp [Array.getElem?_eq_none h] at hv
  have := h2 i hi
  rw [← Bool.not_eq_true, Bool.and_eq_true, decide_eq_true_eq, decide_eq_true_eq]
  exact this
theorem RowAt.load {b K m tp : Nat} {kn : Bool} {c : Tr AV} (h : RowAt r w b K m kn tp c) {off k : Nat} {l : AV} (hl : getCells c k off = some l) :
    (loadCells ⟨b, off, none⟩ k).run P w = .ok (concL r l).toArray w ∧ ok r l ∧ flat l := by
  obtain ⟨h1, h2⟩ := getCells_some hl
  have hall : ∀ j v, c.get j = some v → ok r v ∧ scB v = true := fun j v hv => by
    obtain ⟨cs, ty, fr, _, _, _, h4⟩ := h
    exact ⟨(h4 j v hv).1, (h4 j v hv).2.1⟩
  refine ⟨?_, getCells_flat hl hall⟩
  have := run_loadCells_list (P := P) w ⟨b, off, none⟩ (concL r l) (fun j v hv => by
    rw [addr_add0]
    have hj : j < k := by
      have := (List.getElem?_eq_some_iff.1 hv).1
      rw [len_concL, h1] at this
      exact this
    obtain ⟨u, h3, h4⟩ := h2 j hj
    rw [h.cell h3]
    have h5 := nth_concL (r := r) h4
    rw [hv] at h5
    exact h5.symm)
  rwa [len_concL, h1] at this
/-- Behind a store of cells that are there. -/
theorem heap_setCells (b : Nat) : ∀ (vs : List Value) (o : Nat) (w : World) (cs : Array Value) (ty : TypeId) (fr : Nat × Nat), w.heap[b]? = some (.cells cs ty fr) → o + vs.length ≤ cs.size →
    ∃ cs', (w.setCells b o vs).heap[b]? = some (.cells cs' ty fr) ∧ cs'.size = cs.size ∧ (∀ j, j < vs.length → cs'[o + j]? = vs[j]?) ∧ ∀ j, (j < o ∨ o + vs.length ≤ j) → cs'[j]? = cs[j]?
  | [], o, w, cs, ty, fr, h, _ => ⟨cs, h, rfl, fun j hj => absurd hj (Nat.not_lt_zero j), fun _ _ => rfl⟩
  | v :: vs, o, w, cs, ty, fr, h, hs => by
    simp only [List.length_cons] at hs
    have h1 : (w.setCell ⟨b, o, none⟩ v).heap[b]? = some (.cells (cs.setIfInBounds o v) ty fr) := by simp [World.setCell, Array.getElem?_modify, h]
    obtain ⟨cs', h2, h3, h4, h5⟩ := heap_setCells b vs (o + 1) _ _ ty fr h1 (by simp; omega)
    refine ⟨cs', h2, by rw [h3]; simp, ?_, ?_⟩
    · intro j hj
      cases j with
      | zero =>
        rw [Nat.add_zero, h5 o (by omega)]
        simp [show o < cs.size by omega]
      | succ j =>
        simp only [List.length_cons] at hj
        have := h4 j (by omega)
        rw [show o + (j + 1) = o + 1 + j by omega, this]; rfl
    · intro j hj
      simp only [List.length_cons] at hj
      rw [h5 j (by omega), Array.getElem?_setIfInBounds_ne (by omega)]
theorem setCells_frame (b : Nat) : ∀ (vs : List Value) (o : Nat) (w : World), (w.setCells b o vs).heap.size = w.heap.size ∧ (w.setCells b o vs).os = w.os ∧ (w.setCells b o vs).tape = w.tape ∧ (w.setCells b o vs).output = w.output ∧ ∀ k, k ≠ b → (w.setCells b o vs).heap[k]? = w.heap[k]?
  | [], _, _ => ⟨rfl, rfl, rfl, rfl, fun _ _ => rfl⟩
  | v :: vs, o, w => by
    obtain ⟨h1, h2, h3, h4, h5⟩ := setCells_frame b vs (o + 1) (w.setCell ⟨b, o, none⟩ v)
    refine ⟨h1.trans (by simp [World.setCell]), h2, h3, h4, fun k hk => (h5 k hk).trans ?_⟩
    exact Below.heap_setCell w _ v k hk
theorem keepK_setCell (w : World) (b o : Nat) (v : Value) : KeepK w (w.setCell ⟨b, o, none⟩ v) :=
  KeepK.one (g := b) (fun k _ hk => Below.heap_setCell w _ v k hk) (fun cs ty fr h => ⟨cs.setIfInBounds o v, by simp, by simp [World.setCell, Array.getElem?_modify, h]⟩)
theorem keepK_setCells (b : Nat) : ∀ (vs : List Value) (o : Nat) (w : World), KeepK w (w.setCells b o vs)
  | [], _, w => KeepK.refl w
  | v :: vs, o, w => (keepK_setCell w b o v).trans (keepK_setCells b vs (o + 1) (w.setCell ⟨b, o, none⟩ v))
end
end Go.Ev
end

section
namespace Go.Ev
open Go Go.RowKit
section
variable {P : Program} {r r' : Rho} {A : Tr AV} {a : Act} {w : World} {B : Tr AO} {n : Nat}

def Fresh (r : Rho) (n n' : Nat) : Prop := ∀ id, n ≤ id → id < n' → r id = none
def upd (r : Rho) (n : Nat) (p : Nat × Nat) : Rho := fun id => if id = n then some p else r id
theorem upd_same {p : Nat × Nat} : upd r n p n = some p := if_pos rfl
theorem upd_ne {p : Nat × Nat} {id : Nat} (h : id ≠ n) : upd r n p id = r id := if_neg h
theorem upd_ext {p : Nat × Nat} (h : r n = none) : Ext r (upd r n p) := by
  intro id q hq
  rw [upd_ne (fun e => by rw [e, h] at hq; cases hq)]
  exact hq
theorem upd_blk {p : Nat × Nat} : (upd r n p).blk n = p.1 ∧ (upd r n p).cap n = p.2 ∧ ((upd r n p) n).isSome = true := by
  simp [Rho.blk, Rho.cap, upd_same]
/-- A new block. -/
theorem rel_new {o : AO} {ob : Obj} {K : Nat} (hR : Rel P r B.get w) (hn : r n = none)
    (hrow : ∀ m kn tp c, o = .row m kn tp c → RowAt (upd r n (w.heap.size, K)) (w.alloc ob) w.heap.size K m kn tp c) (hmap : ∀ es, o = .map es → MapAt (upd r n (w.heap.size, K)) (w.alloc ob) w.heap.size es) :
    Rel P (upd r n (w.heap.size, K)) (B.set n o).get (w.alloc ob) ∧ Stp r B.get n w (upd r n (w.heap.size, K)) (B.set n o).get (n + 1) (w.alloc ob) := by
  have he := upd_ext (p := (w.heap.size, K)) hn
  have hold : ∀ id u b K', B.get id = some u → r id = some (b, K') → (w.alloc ob).heap[b]? = w.heap[b]? := fun id u b K' h1 h2 => Below.heap_alloc w ob b (hR.lt h1 h2)
  have key : ∀ id u p, (B.set n o).get id = some u → upd r n (w.heap.size, K) id = some p → (id = n ∧ u = o ∧ p = (w.heap.size, K)) ∨ (id ≠ n ∧ B.get id = some u ∧ r id = some p) := by
    intro id u p h1 h2
    rcases Tr.get_set h1 with ⟨e, e2⟩ | ⟨e, h3⟩
    · subst e; rw [upd_same] at h2; cases h2; exact .inl ⟨rfl, e2.symm, rfl⟩
    · rw [upd_ne e] at h2; exact .inr ⟨e, h3, h2⟩
  refine ⟨⟨fun g hg => he _ _ (hR.glob g hg), ?_, ?_, ?_⟩, ⟨⟨rfl, KeepK.of fun b hb => Below.heap_alloc w ob b hb⟩, rfl, rfl, (by show w.heap.size ≤ (w.heap.push ob).size; simp), he, ?_, ?_, ?_, Nat.le_succ n⟩⟩
  · intro id m kn tp c b K' h1 h2
    rcases key id _ _ h1 h2 with ⟨_, e2, e3⟩ | ⟨_, h3, h4⟩
    · cases e3; exact hrow m kn tp c e2.symm
    · exact (hR.row id m kn tp c b K' h3 h4).keep he (hold _ _ _ _ h3 h4)
  · intro id es b K' h1 h2
    rcases key id _ _ h1 h2 with ⟨_, e2, e3⟩ | ⟨_, h3, h4⟩
    · cases e3; exact hmap es e2.symm
    · exact (hR.map id es b K' h3 h4).keep he (hold _ _ _ _ h3 h4)
  · intro id id' u u' p p' h1 h2 h3 h4 h5
    rcases key id _ _ h1 h3 with ⟨e1, _, e3⟩ | ⟨_, g1, g2⟩ <;> rcases key id' _ _ h2 h4 with ⟨f1, _, f3⟩ | ⟨_, g3, g4⟩
    · exact e1.trans f1.symm
    · have := hR.lt g3 g4; rw [← h5, e3] at this; exact absurd this (Nat.lt_irrefl _)
    · have := hR.lt g1 g2; rw [h5, f3] at this; exact absurd this (Nat.lt_irrefl _)
    · exact hR.inj id id' u u' p p' g1 g3 g2 g4 h5
  · intro id hid
    by_cases e : id = n
    · exact .inr (by omega)
    · rw [upd_ne e] at hid; exact .inl hid
  · intro b hb _
    exact Below.heap_alloc w ob b hb
  · intro id u p h1 h2
    rcases key id _ _ h1 h2 with ⟨_, _, e3⟩ | ⟨_, h3, h4⟩
    · exact .inl (by rw [e3]; exact Nat.le_refl _)
    · exact .inr ⟨id, u, p, h3, h4, rfl⟩
/-- A known block turns in place. -/
theorem rel_turn {id b K : Nat} {o o' : AO} (hR : Rel P r B.get w) (ho : B.get id = some o) (hr : r id = some (b, K)) {w' : World} (hs : w'.heap.size = w.heap.size) (h1 : w'.os = w.os ∧ KeepK w w') (h2 : w'.tape = w.tape) (h3 : w'.output = w.output) (hb : ∀ k, k ≠ b → w'.heap[k]? = w.heap[k]?)
    (hrow : ∀ m kn tp c, o' = .row m kn tp c → RowAt r w' b K m kn tp c) (hmap : ∀ es, o' = .map es → MapAt r w' b es) :
    Rel P r (B.set id o').get w' ∧ Stp r B.get n w r (B.set id o').get n w' := by
  have key : ∀ j u p, (B.set id o').get j = some u → r j = some p → (j = id ∧ u = o' ∧ p = (b, K)) ∨ (j ≠ id ∧ B.get j = some u ∧ p.1 ≠ b) := by
    intro j u p h4 h5
    rcases Tr.get_set h4 with ⟨e, e2⟩ | ⟨e, h6⟩
    · subst e; rw [hr] at h5; cases h5; exact .inl ⟨rfl, e2.symm, rfl⟩
    · exact .inr ⟨e, h6, fun e2 => e (hR.inj j id u o p (b, K) h6 ho h5 hr e2)⟩
  refine ⟨⟨hR.glob, ?_, ?_, ?_⟩, ⟨h1, h2, h3, Nat.le_of_eq hs.symm, Ext.refl r, fun _ h => .inl h, ?_, ?_, Nat.le_refl n⟩⟩
  · intro j m kn tp c b' K' h4 h5
    rcases key j _ _ h4 h5 with ⟨_, e2, e3⟩ | ⟨_, h6, h7⟩
    · cases e3; exact hrow m kn tp c e2.symm
    · exact (hR.row j m kn tp c b' K' h6 h5).keep (Ext.refl r) (hb _ h7)
  · intro j es b' K' h4 h5
    rcases key j _ _ h4 h5 with ⟨_, e2, e3⟩ | ⟨_, h6, h7⟩
    · cases e3; exact hmap es e2.symm
    · exact (hR.map j es b' K' h6 h5).keep (Ext.refl r) (hb _ h7)
  · intro j j' u u' p p' h4 h5 h6 h7 h8
    rcases key j _ _ h4 h6 with ⟨e1, _, e3⟩ | ⟨_, g1, g2⟩ <;> rcases key j' _ _ h5 h7 with ⟨f1, _, f3⟩ | ⟨_, g3, g4⟩
    · exact e1.trans f1.symm
    · rw [e3] at h8; exact absurd h8.symm g4
    · rw [f3] at h8; exact absurd h8 g2
    · exact hR.inj j j' u u' p p' g1 g3 h6 h7 h8
  · intro k hk hn
    exact hb k (fun e => hn id o (b, K) ho hr e.symm)
  · intro j u p h4 h5
    rcases key j _ _ h4 h5 with ⟨_, _, e3⟩ | ⟨_, h6, _⟩
    · exact .inr ⟨id, o, (b, K), ho, hr, by rw [e3]⟩
    · exact .inr ⟨j, u, p, h6, h5, rfl⟩

/-- A known block turns in place, and bears another name. -/
theorem rel_move {id b K : Nat} {o o' : AO} (hR : Rel P r B.get w) (hn : r n = none) (ho : B.get id = some o) (hr : r id = some (b, K)) {w' : World} (hs : w'.heap.size = w.heap.size) (h1 : w'.os = w.os ∧ KeepK w w') (h2 : w'.tape = w.tape) (h3 : w'.output = w.output) (hb : ∀ k, k ≠ b → w'.heap[k]? = w.heap[k]?)
    (hrow : ∀ m kn tp c, o' = .row m kn tp c → RowAt (upd r n (b, K)) w' b K m kn tp c) (hmap : ∀ es, o' = .map es → MapAt (upd r n (b, K)) w' b es) :
    Rel P (upd r n (b, K)) ((B.del id).set n o').get w' ∧ Stp r B.get n w (upd r n (b, K)) ((B.del id).set n o').get (n + 1) w' := by
  have he := upd_ext (p := (b, K)) hn
  have key : ∀ j u p, ((B.del id).set n o').get j = some u → upd r n (b, K) j = some p → (j = n ∧ u = o' ∧ p = (b, K)) ∨ (j ≠ n ∧ B.get j = some u ∧ r j = some p ∧ p.1 ≠ b) := by
    intro j u p h4 h5
    rcases Tr.get_set h4 with ⟨e, e2⟩ | ⟨e, h6⟩
    · subst e; rw [upd_same] at h5; cases h5; exact .inl ⟨rfl, e2.symm, rfl⟩
    · rw [upd_ne e] at h5
      obtain ⟨h7, h8⟩ := Tr.get_del h6
      exact .inr ⟨e, h8, h5, fun e2 => h7 (hR.inj j id u o p (b, K) h8 ho h5 hr e2)⟩
  refine ⟨⟨fun g hg => he _ _ (hR.glob g hg), ?_, ?_, ?_⟩, ⟨h1, h2, h3, Nat.le_of_eq hs.symm, he, ?_, ?_, ?_, Nat.le_succ n⟩⟩
  · intro j m kn tp c b' K' h4 h5
    rcases key j _ _ h4 h5 with ⟨_, e2, e3⟩ | ⟨_, h6, h7, h8⟩
    · cases e3; exact hrow m kn tp c e2.symm
    · exact (hR.row j m kn tp c b' K' h6 h7).keep he (hb _ h8)
  · intro j es b' K' h4 h5
    rcases key j _ _ h4 h5 with ⟨_, e2, e3⟩ | ⟨_, h6, h7, h8⟩
    · cases e3; exact hmap es e2.symm
    · exact (hR.map j es b' K' h6 h7).keep he (hb _ h8)
  · intro j j' u u' p p' h4 h5 h6 h7 h8
    rcases key j _ _ h4 h6 with ⟨e1, _, e3⟩ | ⟨_, g1, g2, g5⟩ <;> rcases key j' _ _ h5 h7 with ⟨f1, _, f3⟩ | ⟨_, g3, g4, g6⟩
    · exact e1.trans f1.symm
    · rw [e3] at h8; exact absurd h8.symm g6
    · rw [f3] at h8; exact absurd h8 g5
    · exact hR.inj j j' u u' p p' g1 g3 g2 g4 h8
  · intro j hj
    by_cases e : j = n
    · exact .inr (by omega)
    · rw [upd_ne e] at hj; exact .inl hj
  · intro k hk hn'
    exact hb k (fun e => hn' id o (b, K) ho hr e.symm)
  · intro j u p h4 h5
    rcases key j _ _ h4 h5 with ⟨_, _, e3⟩ | ⟨_, h6, h7, _⟩
    · exact .inr ⟨id, o, (b, K), ho, hr, by rw [e3]⟩
    · exact .inr ⟨j, u, p, h6, h7, rfl⟩

/-- What an operation does, in every world that fits. -/
def OpOK (P : Program) (o : Oper) (uses : Act → Rho → Prop) (B : Tr AO) (n : Nat) (v : AV) (B' : Tr AO) (n' : Nat) : Prop :=
  n ≤ n' ∧ ∀ r w a, Rel P r B.get w → uses a r → Fresh r n n' → ∀ K Q, (∀ r' w', Stp r B.get n w r' B'.get n' w' → Rel P r' B'.get w' → ok r' v → K (a.put o.dst (conc r' v)) w') → o.wp P a w K Q
def AgI (r : Rho) (A : Tr AV) (a : Act) : I → Prop
  | .pure _ _ xs => AgXs r A a xs
  | .skip _ => True
  | .box _ x => AgX r A a x
  | .bsl _ _ _ _ _ xs => AgXs r A a xs
  | .ld _ _ _ x => AgX r A a x
  | .st _ _ x y => AgX r A a x ∧ AgX r A a y
  | .b2s _ x => AgX r A a x
  | .mkm _ => True
  | .mks _ _ _ l c => AgX r A a l ∧ AgX r A a c
  | .lk _ _ _ _ x k => AgX r A a x ∧ AgX r A a k
  | .mu _ _ m k x => AgX r A a m ∧ AgX r A a k ∧ AgX r A a x
  | .app _ _ x y => AgX r A a x ∧ AgX r A a y
  | .appz _ _ _ x y => AgX r A a x ∧ AgX r A a y
  | .mlen _ x => AgX r A a x
  | .call _ x xs => AgX r A a x ∧ AgXs r A a xs
  | .dfr _ x xs => AgX r A a x ∧ AgXs r A a xs
/-- A run that is not bad goes on behind the operation, with what the operation did. -/
def Goes (P : Program) (E : Fns) (o : Oper) (i : I) : Prop :=
  ∀ (k : K) (A : Tr AV) (B : Tr AO) (n : Nat) (D : DL), i.run E k A B n D ≠ .bad → ∃ v B' n', i.run E k A B n D = k (putD A o.dst v) B' n' D ∧ OpOK P o (fun a r => AgI r A a i) B n v B' n'

/-- What an operation that only looks comes to: the world stays. -/
def QOK (P : Program) (o : Oper) (uses : Act → Rho → Prop) (B : Tr AO) (v : AV) : Prop :=
  ∀ r w a, Rel P r B.get w → uses a r → ok r v ∧ ∀ K Q, K (a.put o.dst (conc r v)) w → o.wp P a w K Q
def Goes1 (P : Program) (E : Fns) (o : Oper) (i : I) : Prop :=
  ∀ (k : K) (A : Tr AV) (B : Tr AO) (n : Nat) (D : DL), i.run E k A B n D ≠ .bad → ∃ v, i.run E k A B n D = k (putD A o.dst v) B n D ∧ QOK P o (fun a r => AgI r A a i) B v
theorem Goes1.goes {E : Fns} {o : Oper} {i : I} (h : Goes1 P E o i) : Goes P E o i := by
  intro k A B n D hb
  obtain ⟨v, h1, h2⟩ := h k A B n D hb
  refine ⟨v, B, n, h1, Nat.le_refl n, fun r w a hR ha _ K Q hK => ?_⟩
  obtain ⟨h3, h4⟩ := h2 r w a hR ha
  exact h4 K Q (hK r w (Stp.refl _ _ _ _) hR h3)
/-- What stands behind an operation of ours. -/
def Inv (P : Program) (o : Oper) : I → Prop
  | .pure d p xs => d = o.dst ∨ (p = .nilc ∧ xs = .cons (.c .pn) .nil)
  | .skip _ => False
  | .box d x => d = o.dst ∧ ((∃ e z, o.op = .alloc e ∧ zeroB P e = some z ∧ x = .c z) ∨ ∃ e y, o.op = .box e y ∧ cX P y = some x)
  | .bsl d size len z parts xs => d = o.dst ∧ ∃ t e ps, o.op = .buildSlice t len ps ∧ P.underlying t = some (.slice e) ∧ cXs P (ps.toList.map (·.2)) = some xs ∧ sizeB P e = some size ∧ zeroB P e = some z ∧ z.cells.len = size ∧ 0 < size ∧ len * size ≤ 1000000 ∧ parts = ps.toList.map fun p => (p.1 * size, size)
  | .ld d g size x => d = o.dst ∧ ∃ t y, o.op = .load t y ∧ isAggB P t = some g ∧ sizeB P t = some size ∧ cX P y = some x
  | .st d size x y => d = o.dst ∧ ∃ t x' y', o.op = .store t x' y' ∧ sizeB P t = some size ∧ cX P x' = some x ∧ cX P y' = some y
  | .b2s d x => d = o.dst ∧ ∃ s t e y, o.op = .convert s t y ∧ P.underlying s = some (.slice e) ∧ P.underlying t = some .string ∧ P.underlying e = some (.int .u8) ∧ sizeB P e = some 1 ∧ cX P y = some x
  | .mkm d => d = o.dst ∧ ∃ t, o.op = .makeMap t none
  | .mks d size z l c => d = o.dst ∧ ∃ t e l' c', o.op = .makeSlice t l' c' ∧ P.underlying t = some (.slice e) ∧ cX P l' = some l ∧ cX P c' = some c ∧ sizeB P e = some size ∧ zeroB P e = some z ∧ lightB P e = true ∧ z.cells.len = size ∧ 0 < size
  | .lk d ek z ok x k => d = o.dst ∧ ∃ t kt e x' k', o.op = .lookup t x' k' ok ∧ P.underlying t = some (.map kt e) ∧ keyK P kt = some ek ∧ zeroB P e = some z ∧ cX P x' = some x ∧ cX P k' = some k
  | .mu d ek m k x => d = o.dst ∧ ∃ t kt e m' k' x', (o.op = .mapUpdate t m' k' x' ∨ o.op = .insert t m' k' x') ∧ P.underlying t = some (.map kt e) ∧ keyK P kt = some ek ∧ cX P m' = some m ∧ cX P k' = some k ∧ cX P x' = some x
  | .app d size x y => d = o.dst ∧ ∃ t u e td x' y' z, o.op = .call ⟨.builtin .append, #[x', y'], #[t, u]⟩ ∧ P.underlying t = some (.slice e) ∧ P.underlying u = some td ∧ (∀ k, td ≠ .int k) ∧ cX P x' = some x ∧ cX P y' = some y ∧ sizeB P e = some size ∧ zeroB P e = some z ∧ lightB P e = true ∧ z.cells.len = size ∧ 0 < size
  | .appz d size z x y => d = o.dst ∧ ∃ t u e k x' y', o.op = .call ⟨.builtin .append, #[x', y'], #[t, u]⟩ ∧ P.underlying t = some (.slice e) ∧ P.underlying u = some (.int k) ∧ cX P x' = some x ∧ cX P y' = some y ∧ sizeB P e = some size ∧ zeroB P e = some z ∧ lightB P e = true ∧ z.cells.len = size ∧ 0 < size
  | .mlen d x => d = o.dst ∧ ∃ t k e x', o.op = .call ⟨.builtin .len, #[x'], #[t]⟩ ∧ P.underlying t = some (.map k e) ∧ cX P x' = some x
  | .call d x xs => d = o.dst ∧ ∃ c f, o.op = .call c ∧ c.callee = .value f ∧ cX P f = some x ∧ cXs P c.args.toList = some xs
  | .dfr d x xs => d = o.dst ∧ ∃ c f, o.op = .defer c ∧ c.callee = .value f ∧ cX P f = some x ∧ cXs P c.args.toList = some xs
theorem map_some {α β : Type} {f : α → β} {x : Option α} {y : β} (h : x.map f = some y) : ∃ u, x = some u ∧ y = f u := by
  cases x with
  | none => cases h
  | some u => exact ⟨u, rfl, by injection h with h; exact h.symm⟩
theorem cBuiltin_inv {o : Oper} {b : Builtin} {args : Array Operand} {argTypes : Array TypeId} (ho : o.op = .call ⟨.builtin b, args, argTypes⟩) {i : I} (hc : cBuiltin P o.dst b argTypes.toList args.toList = some i) : Inv P o i := by
  obtain ⟨args⟩ := args
  obtain ⟨argTypes⟩ := argTypes
  unfold cBuiltin at hc
  split at hc
  · rename_i t u x y e1 e2
    have e1 : argTypes = [t, u] := e1
    have e2 : args = [x, y] := e2
    subst e1; subst e2
    split at hc
    · rename_i e k x' y' hu hv hx hy
      split at hc
      · rename_i sz z hs hz
        obtain ⟨h1, h⟩ := bif_some hc
        cases h
        simp only [Bool.and_eq_true, Nat.beq_eq, Nat.blt_eq] at h1
        exact ⟨rfl, t, u, e, k, x, y, ho, hu, hv, hx, hy, hs, hz, h1.1.1, h1.1.2, h1.2⟩
      · cases hc
    · rename_i e td x' y' hn hu hv hx hy
      split at hc
      · rename_i sz z hs hz
        obtain ⟨h1, h⟩ := bif_some hc
        cases h
        simp only [Bool.and_eq_true, Nat.beq_eq, Nat.blt_eq] at h1
        exact ⟨rfl, t, u, e, td, x, y, z, ho, hu, hv, fun k hk => hn k hk, hx, hy, hs, hz, h1.1.1, h1.1.2, h1.2⟩
      · cases hc
    · cases hc
  · rename_i t x e1 e2
    have e1 : argTypes = [t] := e1
    have e2 : args = [x] := e2
    subst e1; subst e2
    split at hc
    · rename_i k e x' hu hx
      cases hc
      exact ⟨rfl, t, k, e, x, ho, hu, hx⟩
    · cases hc; exact .inl rfl
    · cases hc; exact .inl rfl
    · cases hc
  · split at hc
    · cases hc; exact .inl rfl
    · cases hc
  · split at hc
    · cases hc; exact .inl rfl
    · cases hc
  · split at hc
    · cases hc; exact .inl rfl
    · cases hc
  · cases hc
theorem cOp_inv {o : Oper} {i : I} (hc : cOp P o = some i) : Inv P o i := by
  obtain ⟨dst, op, type, pos, after, guard⟩ := o
  cases op <;> simp only [cOp] at hc
  case alloc e => obtain ⟨z, hz, rfl⟩ := map_some hc; exact ⟨rfl, .inl ⟨e, z, rfl, hz, rfl⟩⟩
  case box e x => obtain ⟨y, hy, rfl⟩ := map_some hc; exact ⟨rfl, .inr ⟨e, x, rfl, hy⟩⟩
  case buildSlice t len ps =>
    split at hc
    · rename_i e xs hu hx
      split at hc
      · rename_i size z hs hz
        obtain ⟨h1, h⟩ := bif_some hc
        cases h
        simp only [Bool.and_eq_true, Nat.beq_eq, Nat.blt_eq, Nat.ble_eq] at h1
        exact ⟨rfl, t, e, ps, rfl, hu, hx, hs, hz, h1.1.1, h1.1.2, h1.2, rfl⟩
      · cases hc
    · cases hc
  case insert t m k x =>
    split at hc
    · rename_i kt e m' k' x' hu hm hk hx
      obtain ⟨ek, he, rfl⟩ := map_some hc
      exact ⟨rfl, t, kt, e, m, k, x, .inr rfl, hu, he, hm, hk, hx⟩
    · cases hc
  case load t x =>
    split at hc
    · rename_i g sz y hg hs hy
      cases hc
      exact ⟨rfl, t, x, rfl, hg, hs, hy⟩
    · cases hc
  case store t x y =>
    split at hc
    · rename_i sz x' y' hs hx hy
      cases hc
      exact ⟨rfl, t, x, y, rfl, hs, hx, hy⟩
    · cases hc
  case convert s t x =>
    split at hc
    · cases hc; exact .inl rfl
    · cases hc; exact .inl rfl
    · rename_i e y hs ht hy
      split at hc
      · rename_i he hz
        cases hc
        exact ⟨rfl, s, t, e, x, rfl, hs, ht, he, hz, hy⟩
      · cases hc
    · cases hc
  case makeMap t m =>
    cases m with
    | none => cases hc; exact ⟨rfl, t, rfl⟩
    | some _ => cases hc
  case makeSlice t l c =>
    split at hc
    · rename_i e l' c' hu hl hcc
      split at hc
      · rename_i size z hs hz
        obtain ⟨h1, h⟩ := bif_some hc
        cases h
        simp only [Bool.and_eq_true, Nat.beq_eq, Nat.blt_eq] at h1
        exact ⟨rfl, t, e, l, c, rfl, hu, hl, hcc, hs, hz, h1.1.1, h1.1.2, h1.2⟩
      · cases hc
    · cases hc
  case lookup t x k ok =>
    split at hc
    · rename_i kt e x' k' hu hx hk
      split at hc
      · rename_i ek z he hz
        cases hc
        exact ⟨rfl, t, kt, e, x, k, rfl, hu, he, hz, hx, hk⟩
      · cases hc
    · cases hc
  case mapUpdate t m k x =>
    split at hc
    · rename_i kt e m' k' x' hu hm hk hx
      obtain ⟨ek, he, rfl⟩ := map_some hc
      exact ⟨rfl, t, kt, e, m, k, x, .inl rfl, hu, he, hm, hk, hx⟩
    · cases hc
  case call c =>
    obtain ⟨callee, args, argTypes⟩ := c
    cases callee with
    | value f =>
      have hc : (match cX P f, cXs P args.toList with | some x, some xs => some (I.call dst x xs) | _, _ => none) = some i := hc
      split at hc
      · rename_i x xs hx hxs
        cases hc
        exact ⟨rfl, ⟨.value f, args, argTypes⟩, f, rfl, rfl, hx, hxs⟩
      · cases hc
    | invoke => cases hc
    | builtin b => exact cBuiltin_inv (o := ⟨dst, .call ⟨.builtin b, args, argTypes⟩, type, pos, after, guard⟩) rfl hc
  case defer c =>
    obtain ⟨callee, args, argTypes⟩ := c
    cases callee with
    | value f =>
      have hc : (match cX P f, cXs P args.toList with | some x, some xs => some (I.dfr dst x xs) | _, _ => none) = some i := hc
      split at hc
      · rename_i x xs hx hxs
        cases hc
        exact ⟨rfl, ⟨.value f, args, argTypes⟩, f, rfl, rfl, hx, hxs⟩
      · cases hc
    | invoke => cases hc
    | builtin b => cases hc
  case panic => cases hc; exact .inr ⟨rfl, rfl⟩
  case typeAssert => cases hc; exact .inr ⟨rfl, rfl⟩
  all_goals try (cases hc; done)
  all_goals try (obtain ⟨y, hy, rfl⟩ := map_some hc; exact .inl rfl)
  case build t ps =>
    split at hc
    · obtain ⟨_, h⟩ := bif_some hc
      obtain ⟨y, hy, rfl⟩ := map_some h; exact .inl rfl
    · obtain ⟨y, hy, rfl⟩ := map_some hc; exact .inl rfl
    · cases hc
  case binOp op t x y yt =>
    split at hc
    · split at hc
      · obtain ⟨y, hy, rfl⟩ := map_some hc; exact .inl rfl
      · obtain ⟨y, hy, rfl⟩ := map_some hc; exact .inl rfl
      · cases hc; exact .inl rfl
    · cases hc
  case makeInterface t x =>
    split at hc
    · obtain ⟨_, h⟩ := bif_some hc; cases h; exact .inl rfl
    · cases hc
  case makeFunc fn first captured =>
    cases fn with
    | func f =>
      have hc : (if first.isEmpty = true then Option.map (fun l => I.pure dst (PO.mkf f) l) (cXs P captured.toList) else none) = some i := hc
      by_cases hf : first.isEmpty = true
      · rw [if_pos hf] at hc; obtain ⟨y, hy, rfl⟩ := map_some hc; exact .inl rfl
      · rw [if_neg hf] at hc; cases hc
    | _ => cases hc
  case slice t x lo hi mx =>
    cases mx with
    | some _ => cases hc
    | none =>
      simp only at hc
      split at hc
      · cases hc; exact .inl rfl
      · obtain ⟨y, hy, rfl⟩ := map_some hc; exact .inl rfl
      · obtain ⟨y, hy, rfl⟩ := map_some hc; exact .inl rfl
      · cases hc
  case fieldAddr t x k =>
    split at hc
    · rename_i fields y hu hy
      cases ef : fields[k]? with
      | none => simp [ef] at hc
      | some f =>
        simp only [ef, Option.bind_some] at hc
        split at hc
        · cases hc; exact .inl rfl
        · cases hc
    · cases hc
  case field t x k =>
    split at hc
    · split at hc
      · split at hc
        · cases hc; exact .inl rfl
        · cases hc
      · cases hc
    · cases hc
  case indexAddr t x ix =>
    split at hc
    · obtain ⟨y, hy, rfl⟩ := map_some hc; exact .inl rfl
    · obtain ⟨y, hy, rfl⟩ := map_some hc; exact .inl rfl
    · cases hc
  case index t x ix =>
    split at hc
    · split at hc
      · cases hc; exact .inl rfl
      · cases hc
    · cases hc; exact .inl rfl
    · cases hc
end
end Go.Ev
end
