/- The evaluator: whole functions are true. -/
import Derived.Test.YtibdcnmaodmghaaGreatDoorEvC
import Derived.Scope
import Derived.Deep.LoopGhost
import Derived.Orders
section
namespace Go.Ev
open Go Go.RowKit
section
variable {P : Program} {r r' : Rho} {A : Tr AV} {a : Act} {w : World} {B : Tr AO} {n : Nat}

/-- What a call does, in every world that fits. -/
def FnS (P : Program) (f : Nat) (args : AV) (B : Tr AO) (n : Nat) (v : AV) (B' : Tr AO) (n' : Nat) : Prop :=
  n ≤ n' ∧ ∀ r w, Rel P r B.get w → ok r args → Fresh r n n' → ∀ (o : Oper) (a : Act) K Q, (∀ r' w', Stp r B.get n w r' B'.get n' w' → Rel P r' B'.get w' → ok r' v → K (a.put o.dst (conc r' v)) w') → o.upon P a K Q ((callFunc f (concL r args).toArray).run P w)
def Sound (P : Program) (E : Fns) : Prop := ∀ f args B n v B' n', E f args B n = .ok v B' n' → FnS P f args B n v B' n'
theorem callee_some {fv l : AV} {q : Nat × AV} (h : callee fv l = some q) : ∃ f caps, fv = .f f caps ∧ q = (f, l.app caps) := by
  unfold callee at h
  split at h <;> cases h
  exact ⟨_, _, rfl, rfl⟩
theorem goes_call {E : Fns} (hE : Sound P E) {o : Oper} {d : Option Nat} {x : X} {xs : Xs} (hc : cOp P o = some (.call d x xs)) : Goes P E o (.call d x xs) := by
  intro k A B n D h
  have e : (I.call d x xs).run E k A B n D = stCall E d x xs k A B n D := rfl
  rw [e] at h ⊢
  unfold stCall at h ⊢
  obtain ⟨fv, hx, e1⟩ := orec h
  rw [e1] at h ⊢
  obtain ⟨l, hl, e2⟩ := orec h
  rw [e2] at h ⊢
  obtain ⟨q, hq, e3⟩ := orec h
  rw [e3] at h ⊢
  obtain ⟨v, B', n', hv, e4⟩ := frec h
  rw [e4]
  obtain ⟨f, caps, rfl, rfl⟩ := callee_some hq
  obtain ⟨rfl, c, fo, ho, hcal, hcx, hcxs⟩ := cOp_inv hc
  obtain ⟨hle, hS⟩ := hE _ _ _ _ _ _ _ hv
  refine ⟨v, B', n', rfl, hle, fun r w a hR ha hF K Q hK => ?_⟩
  obtain ⟨h1, h2⟩ := cX_eval hR.glob hcx hx ha.1
  obtain ⟨h3, h4⟩ := cXs_eval hR.glob hcxs hl ha.2
  have := hS r w hR (ok_app (l := caps) h2 l h4) hF o a K Q hK
  unfold Oper.wp
  have hargs : c.args.map a.eval = (concL r l).toArray := Array.ext' (by rw [Array.toList_map, h3])
  have hexec : execOp a.eval o = (do let d ← resolve a.eval c o.type; invoke d.target d.args) := by simp [execOp, ho]
  rw [hexec]
  simp only [resolve, hcal, h1, conc_f, Deferred.ofValue, Sem.run_bind, Sem.run_pure, Result.andThen_ok, hargs, invoke]
  have e5 : (#[] ++ (concL r l).toArray ++ (concL r caps).toArray : Array Value) = (concL r (l.app caps)).toArray := by rw [concL_app]; simp
  rw [e5]
  exact this
/-- Every operation but a deferred call. -/
theorem goes_all {E : Fns} (hE : Sound P E) {o : Oper} {i : I} (hc : cOp P o = some i) (hd : ∀ d x xs, i ≠ .dfr d x xs) : Goes P E o i := by
  cases i with
  | pure d p xs => exact (goes_pure hc).goes
  | skip d => exact absurd (cOp_inv hc) id
  | box d x => exact goes_box hc
  | bsl => exact goes_bsl hc
  | ld => exact (goes_ld hc).goes
  | st => exact goes_st hc
  | b2s => exact (goes_b2s hc).goes
  | mkm => exact goes_mkm hc
  | mks => exact goes_mks hc
  | lk => exact (goes_lk hc).goes
  | mu => exact goes_mu hc
  | app => exact goes_app hc
  | appz => exact goes_appz hc
  | mlen => exact (goes_mlen hc).goes
  | call => exact goes_call hE hc
  | dfr d x xs => exact absurd rfl (hd d x xs)

/-- The frame holds what is known of it. -/
def AgA (r : Rho) (A : Tr AV) (N : Nat) (a : Act) : Prop := (∀ t, AgT r A a t) ∧ N ≤ a.tmps.size
theorem AgA.x {N : Nat} (h : AgA r A N a) : ∀ x, AgX r A a x
  | .t n => h.1 n
  | .c _ => trivial
theorem AgA.xs {N : Nat} (h : AgA r A N a) : ∀ xs, AgXs r A a xs
  | .nil => trivial
  | .cons x l => ⟨h.x x, h.xs l⟩
theorem AgA.i {N : Nat} (h : AgA r A N a) (i : I) : AgI r A a i := by
  cases i <;> simp only [AgI] <;> first | exact h.x _ | exact h.xs _ | exact ⟨h.x _, h.x _⟩ | exact ⟨h.x _, h.x _, h.x _⟩ | exact ⟨h.x _, h.xs _⟩
theorem eval_put {d : Nat} {v : Value} (h : d < a.tmps.size) : (a.put (some d) v).eval (.tmp d) = v := by
  simp [Act.put, Act.eval, h]
theorem eval_put' {d k : Nat} {v : Value} (h : d ≠ k) : (a.put (some d) v).eval (.tmp k) = a.eval (.tmp k) := by
  simp [Act.put, Act.eval, h]
theorem put_size {d : Option Nat} {v : Value} : (a.put d v).tmps.size = a.tmps.size := by
  cases d <;> simp [Act.put]
theorem put_defers {d : Option Nat} {v : Value} : (a.put d v).defers = a.defers := by
  cases d <;> rfl
theorem AgA.put {N : Nat} (h : AgA r A N a) (he : Ext r r') {d : Option Nat} (hd : inside N d = true) {v : AV} (hv : ok r' v) : AgA r' (putD A d v) N (a.put d (conc r' v)) := by
  refine ⟨fun t u hu => ?_, by rw [put_size]; exact h.2⟩
  cases d with
  | none =>
    obtain ⟨h1, h2⟩ := h.1 t u hu
    exact ⟨by rw [conc_ext he h2]; exact h1, ok_ext he h2⟩
  | some d =>
    have hlt : d < N := by
      have hd : Nat.blt d N = true := hd
      simp [Nat.blt] at hd; omega
    rcases Tr.get_set (show (A.set d v).get t = some u from hu) with ⟨rfl, rfl⟩ | ⟨h1, h2⟩
    · exact ⟨eval_put (Nat.lt_of_lt_of_le hlt h.2), hv⟩
    · obtain ⟨h3, h4⟩ := h.1 t u h2
      exact ⟨by rw [eval_put' (Ne.symm h1), conc_ext he h4]; exact h3, ok_ext he h4⟩
/-- Deferred calls. -/
def DefOK (r : Rho) : DL → List Deferred → Prop
  | [], [] => True
  | (f, l) :: D, d :: ds => (∃ cap : Array Value, d.target = .fn (.func f) cap ∧ d.args ++ cap = (concL r l).toArray) ∧ ok r l ∧ DefOK r D ds
  | _, _ => False
theorem DefOK.ext (he : Ext r r') : ∀ {D : DL} {ds : List Deferred}, DefOK r D ds → DefOK r' D ds
  | [], [], _ => trivial
  | (f, l) :: D, d :: ds, ⟨⟨cap, h1, h2⟩, h3, h4⟩ => ⟨⟨cap, h1, by rw [concL_ext he h3]; exact h2⟩, ok_ext he h3, DefOK.ext he h4⟩
  | [], _ :: _, h => h.elim
  | _ :: _, [], h => h.elim
end
end Go.Ev
end

section
namespace Go.Ev
open Go Go.RowKit
section
variable {P : Program} {r r' : Rho} {A : Tr AV} {a : Act} {w : World} {B : Tr AO} {n : Nat} {N : Nat}

theorem Fresh.left {n1 n2 : Nat} (h : Fresh r n n2) (h1 : n1 ≤ n2) : Fresh r n n1 := fun id a b => h id a (by omega)
theorem Fresh.right {H H' : Hf} {n1 n2 : Nat} {w' : World} (h : Fresh r n n2) (hs : Stp r H n w r' H' n1 w') : Fresh r' n1 n2 := by
  intro id h1 h2
  cases e : r' id with
  | none => rfl
  | some p =>
    rcases hs.dom id (by rw [e]; rfl) with h3 | h3
    · have := hs.le
      rw [h id (by omega) h2] at h3; cases h3
    · omega
/-- Where a piece of code can go to. -/
def Post (Q : Exit → Act → World → Prop) (P : Program) (N : Nat) (r : Rho) (B : Tr AO) (n : Nat) (w : World) (res : Res) : Prop :=
  match res with
  | .nm A' B' n' D' => ∀ r' w' a', Stp r B.get n w r' B'.get n' w' → Rel P r' B'.get w' → AgA r' A' N a' → DefOK r' D' a'.defers → Q .normal a' w'
  | .ex id A' B' n' D' => ∀ r' w' a', Stp r B.get n w r' B'.get n' w' → Rel P r' B'.get w' → AgA r' A' N a' → DefOK r' D' a'.defers → Q (.exit id) a' w'
  | .rt A' B' n' D' => ∀ r' w' a', Stp r B.get n w r' B'.get n' w' → Rel P r' B'.get w' → AgA r' A' N a' → DefOK r' D' a'.defers → Q .ret a' w'
  | .bad => False
def nextOf (n : Nat) : Res → Nat
  | .nm _ _ n' _ => n'
  | .ex _ _ _ n' _ => n'
  | .rt _ _ n' _ => n'
  | .bad => n
/-- A guard's slot. -/
theorem wanted_of {ops : Array Oper} {o : Oper} {j : Nat} {want : Bool} {t : Nat} {v : AV} (hg : o.guard = some (j, want)) (ht : (ops[j]?).bind (·.dst) = some t) (hv : a.eval (.tmp t) = conc r v) : Region.wanted o (yielded ops a.tmps) = isB want v := by
  unfold Region.wanted
  rw [hg]
  simp only [yielded, ht, Option.bind_some]
  have he : a.tmps.getD t undef = conc r v := hv
  cases hq : a.tmps[t]? with
  | none =>
    have hu : a.tmps.getD t undef = undef := by simp [Array.getD_eq_getD_getElem?, hq]
    rw [hu] at he
    cases v <;> first | rfl | (exact absurd he (by intro h; cases h))
  | some u =>
    have hu : a.tmps.getD t undef = u := by simp [Array.getD_eq_getD_getElem?, hq]
    rw [hu] at he
    subst he
    cases v <;> first | rfl | skip
    rename_i b
    cases b <;> cases want <;> rfl
theorem seq_ops {E : Fns} (hE : Sound P E) {ops : Array Oper} {Q : Exit → Act → World → Prop} : ∀ (l : List Oper) (k : Nat) (is : Is) (A : Tr AV) (B : Tr AO) (n : Nat) (D : DL), ops.toList.drop k = l → cOps P N ops l = some is → is.run E A B n D ≠ .bad →
    n ≤ nextOf n (is.run E A B n D) ∧ ∀ r w a, Rel P r B.get w → AgA r A N a → DefOK r D a.defers → Fresh r n (nextOf n (is.run E A B n D)) → Post Q P N r B n w (is.run E A B n D) → wpOps P ops Q (List.range' k l.length) a w
  | [], k, is, A, B, n, D, hl, hc, hb => by
    simp only [cOps] at hc; cases hc
    have e : Is.nil.run E A B n D = .nm A B n D := rfl
    rw [e]
    exact ⟨Nat.le_refl n, fun r w a hR ha hD hF hP => hP r w a (Stp.refl _ _ _ _) hR ha hD⟩
  | o :: l, k, is, A, B, n, D, hl, hc, hb => by
    simp only [cOps] at hc
    split at hc
    · rename_i i is' hi his
      obtain ⟨hin, hc⟩ := bif_some hc
      have hk : ops[k]? = some o := by
        have : (ops.toList.drop k)[0]? = some o := by rw [hl]; rfl
        simpa using this
      have hl' : ops.toList.drop (k + 1) = l := by
        have := congrArg List.tail hl
        simpa using this
      have ih := seq_ops hE (Q := Q) (ops := ops) l (k + 1) is'
      -- the operation itself, then the rest
      have step : ∀ A B n D, i.run E (is'.run E) A B n D ≠ .bad → n ≤ nextOf n (i.run E (is'.run E) A B n D) ∧ ∀ r w a, Rel P r B.get w → AgA r A N a → DefOK r D a.defers → Fresh r n (nextOf n (i.run E (is'.run E) A B n D)) → Post Q P N r B n w (i.run E (is'.run E) A B n D) → o.wp P a w (wpOps P ops Q (List.range' (k + 1) l.length)) Q := by
        intro A B n D hb
        by_cases hd : ∃ d x xs, i = .dfr d x xs
        · obtain ⟨d, x, xs, rfl⟩ := hd
          have e : (I.dfr d x xs).run E (is'.run E) A B n D = stDfr d x xs (is'.run E) A B n D := rfl
          rw [e] at hb ⊢
          unfold stDfr at hb ⊢
          obtain ⟨fv, hx, e1⟩ := orec hb
          rw [e1] at hb ⊢
          obtain ⟨ll, hll, e2⟩ := orec hb
          rw [e2] at hb ⊢
          obtain ⟨q, hq, e3⟩ := orec hb
          rw [e3] at hb ⊢
          obtain ⟨rfl, c, fo, ho, hcal, hcx, hcxs⟩ := cOp_inv hi
          obtain ⟨f, caps, rfl, rfl⟩ := callee_some hq
          obtain ⟨h1, h2⟩ := ih (putD A o.dst undefA) B n ((f, ll.app caps) :: D) hl' his hb
          refine ⟨h1, fun r w a hR ha hD hF hP => ?_⟩
          obtain ⟨g1, g2⟩ := cX_eval hR.glob hcx hx (ha.x x)
          obtain ⟨g3, g4⟩ := cXs_eval hR.glob hcxs hll (ha.xs xs)
          have hargs : c.args.map a.eval = (concL r ll).toArray := Array.ext' (by rw [Array.toList_map, g3])
          unfold Oper.wp
          have hexec : execOp a.eval o = (do pure (.defer (← resolve a.eval c o.type))) := by simp [execOp, ho]
          rw [hexec]
          simp only [resolve, hcal, g1, conc_f, Deferred.ofValue, Sem.run_bind, Sem.run_pure, Result.andThen_ok, hargs]
          refine h2 r w _ hR (AgA.put (a := { a with defers := _ :: a.defers }) ⟨ha.1, ha.2⟩ (Ext.refl r) hin trivial) ?_ hF hP
          rw [put_defers]
          refine ⟨⟨(concL r caps).toArray, rfl, ?_⟩, ok_app (l := caps) g2 ll g4, hD⟩
          rw [concL_app]; simp
        · have hg := goes_all hE hi (fun d x xs e => hd ⟨d, x, xs, e⟩)
          obtain ⟨v, B1, n1, e, hle, hop⟩ := hg (is'.run E) A B n D hb
          rw [e] at hb ⊢
          obtain ⟨h1, h2⟩ := ih (putD A o.dst v) B1 n1 D hl' his hb
          have e3 : nextOf n (is'.run E (putD A o.dst v) B1 n1 D) = nextOf n1 (is'.run E (putD A o.dst v) B1 n1 D) := by
            revert hb
            cases is'.run E (putD A o.dst v) B1 n1 D <;> intro hb <;> first | rfl | exact absurd rfl hb
          rw [e3]
          refine ⟨Nat.le_trans hle h1, fun r w a hR ha hD hF hP => ?_⟩
          refine hop r w a hR (ha.i i) (hF.left h1) _ _ fun r1 w1 hs1 hR1 hv1 => ?_
          refine h2 r1 w1 _ hR1 (ha.put hs1.ext hin hv1) (by rw [put_defers]; exact hD.ext hs1.ext) (hF.right hs1) ?_
          revert hP
          unfold Post
          split <;> intro hP <;> first | exact fun r2 w2 a2 hs2 => hP r2 w2 a2 (hs1.trans hs2) | exact hP
      rw [show List.range' k (o :: l).length = k :: List.range' (k + 1) l.length by simp [List.range'_succ]]
      split at hc
      · rename_i hgd
        cases hc
        have e : (Is.cons i is').run E A B n D = i.run E (is'.run E) A B n D := rfl
        rw [e] at hb ⊢
        obtain ⟨h1, h2⟩ := step A B n D hb
        refine ⟨h1, fun r w a hR ha hD hF hP => ?_⟩
        simp only [wpOps, hk]
        rw [if_pos (by simp [Region.wanted, hgd])]
        exact .inl (h2 r w a hR ha hD hF hP)
      · rename_i j want hgd
        split at hc
        · rename_i t ht
          cases hc
          have e : (Is.gcons t want o.dst i is').run E A B n D = gstep E t want o.dst i (is'.run E) A B n D := rfl
          rw [e] at hb ⊢
          unfold gstep at hb ⊢
          obtain ⟨v, hv, e1⟩ := orec hb
          rw [e1] at hb ⊢
          cases hw : isB want v with
          | true =>
            rw [hw] at hb
            have hb : i.run E (is'.run E) A B n D ≠ .bad := hb
            show n ≤ nextOf n (i.run E (is'.run E) A B n D) ∧ ∀ r w a, Rel P r B.get w → AgA r A N a → DefOK r D a.defers → Fresh r n (nextOf n (i.run E (is'.run E) A B n D)) → Post Q P N r B n w (i.run E (is'.run E) A B n D) → _
            obtain ⟨h1, h2⟩ := step A B n D hb
            refine ⟨h1, fun r w a hR ha hD hF hP => ?_⟩
            simp only [wpOps, hk]
            rw [if_pos (by rw [wanted_of hgd ht (ha.1 t v hv).1]; exact hw)]
            exact .inl (h2 r w a hR ha hD hF hP)
          | false =>
            rw [hw] at hb
            have hb : is'.run E (putD A o.dst undefA) B n D ≠ .bad := hb
            show n ≤ nextOf n (is'.run E (putD A o.dst undefA) B n D) ∧ ∀ r w a, Rel P r B.get w → AgA r A N a → DefOK r D a.defers → Fresh r n (nextOf n (is'.run E (putD A o.dst undefA) B n D)) → Post Q P N r B n w (is'.run E (putD A o.dst undefA) B n D) → _
            obtain ⟨h1, h2⟩ := ih (putD A o.dst undefA) B n D hl' his hb
            refine ⟨h1, fun r w a hR ha hD hF hP => ?_⟩
            simp only [wpOps, hk]
            rw [if_neg (by rw [wanted_of hgd ht (ha.1 t v hv).1, hw]; simp)]
            exact h2 r w _ hR (ha.put (Ext.refl r) hin (v := undefA) trivial) (by rw [put_defers]; exact hD) hF hP
        · cases hc
    · cases hc
end
end Go.Ev
end

section
namespace Go.Ev
open Go Go.RowKit
section
variable {P : Program} {r r' : Rho} {A : Tr AV} {a : Act} {w : World} {B : Tr AO} {n : Nat} {N : Nat}

/-- A piece of code, and its run. -/
def CodeS (P : Program) (N : Nat) (c : Code) (k : K) : Prop :=
  ∀ A B n D, k A B n D ≠ .bad → n ≤ nextOf n (k A B n D) ∧ ∀ (Q : Exit → Act → World → Prop) r w a, Rel P r B.get w → AgA r A N a → DefOK r D a.defers → Fresh r n (nextOf n (k A B n D)) → Post Q P N r B n w (k A B n D) → c.wp P Q a w
theorem Post.later {Q : Exit → Act → World → Prop} {B' : Tr AO} {n' : Nat} {w' : World} {res : Res} (h : Post Q P N r B n w res) (hs : Stp r B.get n w r' B'.get n' w') : Post Q P N r' B' n' w' res := by
  revert h
  unfold Post
  split <;> intro h <;> first | exact fun r2 w2 a2 hs2 => h r2 w2 a2 (hs.trans hs2) | exact h
theorem next_irrel {res : Res} (h : res ≠ .bad) (n m : Nat) : nextOf n res = nextOf m res := by
  cases res <;> first | rfl | exact absurd rfl h
theorem seqK_bad {k : K} {res : Res} (h : seqK k res ≠ .bad) : res ≠ .bad := fun e => h (by rw [e]; rfl)
theorem code_skip : CodeS P N .skip Res.nm := fun _ _ n _ _ => ⟨Nat.le_refl n, fun _ r w a hR ha hD _ hP => wp_skip (hP r w a (Stp.refl _ _ _ _) hR ha hD)⟩
theorem code_label {l : Nat} : CodeS P N (.label l) Res.nm := fun _ _ n _ _ => ⟨Nat.le_refl n, fun _ r w a hR ha hD _ hP => wp_label (hP r w a (Stp.refl _ _ _ _) hR ha hD)⟩
theorem code_exit {id : Nat} : CodeS P N (.exit id) (Res.ex id) := fun _ _ n _ _ => ⟨Nat.le_refl n, fun _ r w a hR ha hD _ hP => wp_exit (hP r w a (Stp.refl _ _ _ _) hR ha hD)⟩
theorem code_ret : CodeS P N .ret Res.rt := fun _ _ n _ _ => ⟨Nat.le_refl n, fun _ r w a hR ha hD _ hP => wp_ret (hP r w a (Stp.refl _ _ _ _) hR ha hD)⟩
theorem code_ops {E : Fns} (hE : Sound P E) {id : Nat} {ops : Array Oper} {is : Is} (hc : cOps P N ops ops.toList = some is) : CodeS P N (.region id ops false) (is.run E) := by
  intro A B n D hb
  have h0 := fun Q => seq_ops (N := N) (Q := Q) hE ops.toList 0 is A B n D (by simp) hc hb
  refine ⟨(h0 fun _ _ _ => True).1, fun Q r w a hR ha hD hF hP => ?_⟩
  have := (h0 Q).2 r w a hR ha hD hF hP
  rw [← List.range_eq_range'] at this
  exact wp_region (by simpa using this)
theorem code_seq {c1 c2 : Code} {k1 k2 : K} (h1 : CodeS P N c1 k1) (h2 : CodeS P N c2 k2) : CodeS P N (.seq c1 c2) (fun A B n D => seqK k2 (k1 A B n D)) := by
  intro A B n D hb
  dsimp only at hb ⊢
  obtain ⟨g1, g2⟩ := h1 A B n D (seqK_bad hb)
  cases e : k1 A B n D with
  | bad => rw [e] at hb; exact absurd rfl hb
  | nm A1 B1 n1 D1 =>
    rw [e] at hb g1 g2
    have hb : k2 A1 B1 n1 D1 ≠ .bad := hb
    obtain ⟨g3, g4⟩ := h2 A1 B1 n1 D1 hb
    show n ≤ nextOf n (k2 A1 B1 n1 D1) ∧ ∀ Q r w a, Rel P r B.get w → AgA r A N a → DefOK r D a.defers → Fresh r n (nextOf n (k2 A1 B1 n1 D1)) → Post Q P N r B n w (k2 A1 B1 n1 D1) → _
    rw [next_irrel hb n n1]
    refine ⟨Nat.le_trans g1 g3, fun Q r w a hR ha hD hF hP => wp_seq (g2 _ r w a hR ha hD (hF.left g3) ?_)⟩
    exact fun r' w' a' hs hR' ha' hD' => g4 Q r' w' a' hR' ha' hD' (hF.right hs) (hP.later hs)
  | ex id A1 B1 n1 D1 =>
    rw [e] at hb g1 g2
    exact ⟨g1, fun Q r w a hR ha hD hF hP => wp_seq (g2 _ r w a hR ha hD hF hP)⟩
  | rt A1 B1 n1 D1 =>
    rw [e] at hb g1 g2
    exact ⟨g1, fun Q r w a hR ha hD hF hP => wp_seq (g2 _ r w a hR ha hD hF hP)⟩
theorem code_cond {x : X} {o : Operand} (hx : cX P o = some x) {c1 c2 : Code} {k1 k2 : K} (h1 : CodeS P N c1 k1) (h2 : CodeS P N c2 k2) : CodeS P N (.cond o c1 c2) (condK x k1 k2) := by
  intro A B n D hb
  unfold condK at hb ⊢
  split at hb
  · rename_i b e
    cases b with
    | true =>
      obtain ⟨g1, g2⟩ := h1 A B n D hb
      exact ⟨g1, fun Q r w a hR ha hD hF hP => wp_cond (t := true) (cX_eval hR.glob hx e (ha.x x)).1 (g2 Q r w a hR ha hD hF hP)⟩
    | false =>
      obtain ⟨g1, g2⟩ := h2 A B n D hb
      exact ⟨g1, fun Q r w a hR ha hD hF hP => wp_cond (t := false) (cX_eval hR.glob hx e (ha.x x)).1 (g2 Q r w a hR ha hD hF hP)⟩
  · exact absurd rfl hb
theorem code_block {id : Nat} {c : Code} {k : K} (h : CodeS P N c k) : CodeS P N (.block id c) (fun A B n D => blockK id (k A B n D)) := by
  intro A B n D hb
  dsimp only at hb ⊢
  obtain ⟨g1, g2⟩ := h A B n D (fun e => hb (by show blockK id (k A B n D) = _; rw [e]; rfl))
  cases e : k A B n D with
  | bad => rw [e] at hb; exact absurd rfl hb
  | nm A1 B1 n1 D1 =>
    rw [e] at g1 g2
    exact ⟨g1, fun Q r w a hR ha hD hF hP => wp_block (g2 _ r w a hR ha hD hF hP)⟩
  | rt A1 B1 n1 D1 =>
    rw [e] at g1 g2
    exact ⟨g1, fun Q r w a hR ha hD hF hP => wp_block (g2 _ r w a hR ha hD hF hP)⟩
  | ex j A1 B1 n1 D1 =>
    rw [e] at g1 g2
    show n ≤ nextOf n (@Bool.rec (fun _ => Res) (.ex j A1 B1 n1 D1) (.nm A1 B1 n1 D1) (Nat.beq j id)) ∧ ∀ Q r w a, Rel P r B.get w → AgA r A N a → DefOK r D a.defers → Fresh r n (nextOf n (@Bool.rec (fun _ => Res) (.ex j A1 B1 n1 D1) (.nm A1 B1 n1 D1) (Nat.beq j id))) → Post Q P N r B n w (@Bool.rec (fun _ => Res) (.ex j A1 B1 n1 D1) (.nm A1 B1 n1 D1) (Nat.beq j id)) → _
    cases ej : Nat.beq j id with
    | true =>
      have : j = id := by simpa using ej
      subst this
      refine ⟨g1, fun Q r w a hR ha hD hF hP => wp_block (g2 _ r w a hR ha hD hF ?_)⟩
      intro r' w' a' hs hR' ha' hD'
      simp only [Exit.inBlock, if_true]
      exact hP r' w' a' hs hR' ha' hD'
    | false =>
      have : j ≠ id := by intro h; rw [h] at ej; simp at ej
      refine ⟨g1, fun Q r w a hR ha hD hF hP => wp_block (g2 _ r w a hR ha hD hF ?_)⟩
      intro r' w' a' hs hR' ha' hD'
      simp only [Exit.inBlock, if_neg this]
      exact hP r' w' a' hs hR' ha' hD'
theorem code_scope {c : Code} {k : K} (h : CodeS P N c k) : CodeS P N (.scope c) k := by
  intro A B n D hb
  obtain ⟨g1, g2⟩ := h A B n D hb
  refine ⟨g1, fun Q r w a hR ha hD hF hP => wp_scope_straight (g2 _ r w a hR ha hD hF ?_)⟩
  revert hP
  unfold Post
  split <;> intro hP <;> exact hP
theorem loopK_succ (k : K) (m : Nat) (A : Tr AV) (B : Tr AO) (n : Nat) (D : DL) : loopK k (m + 1) A B n D = seqK (loopK k m) (k A B n D) := rfl
theorem loop_le {c : Code} {k : K} (h : CodeS P N c k) : ∀ (m : Nat) A B n D, loopK k m A B n D ≠ .bad → n ≤ nextOf n (loopK k m A B n D)
  | 0, _, _, _, _, hb => absurd rfl hb
  | m + 1, A, B, n, D, hb => by
    rw [loopK_succ] at hb ⊢
    have hb1 := seqK_bad hb
    have g1 := (h A B n D hb1).1
    cases e : k A B n D with
    | bad => exact absurd e hb1
    | nm A1 B1 n1 D1 =>
      rw [e] at hb g1
      have hb : loopK k m A1 B1 n1 D1 ≠ .bad := hb
      show n ≤ nextOf n (loopK k m A1 B1 n1 D1)
      rw [next_irrel hb n n1]
      exact Nat.le_trans g1 (loop_le h m A1 B1 n1 D1 hb)
    | ex id A1 B1 n1 D1 => rw [e] at g1; exact g1
    | rt A1 B1 n1 D1 => rw [e] at g1; exact g1
theorem code_loop {c : Code} {k : K} (h : CodeS P N c k) (fuel : Nat) : CodeS P N (.loop c) (loopK k fuel) := by
  intro A B n D hb
  refine ⟨loop_le h fuel A B n D hb, fun Q r w a hR ha hD hF hP => ?_⟩
  generalize hres : loopK k fuel A B n D = res at hb hF hP
  refine wp_loop_ghost (fun m a w => ∃ r A B n D, loopK k m A B n D = res ∧ Rel P r B.get w ∧ AgA r A N a ∧ DefOK r D a.defers ∧ Fresh r n (nextOf n res) ∧ Post Q P N r B n w res) fuel ⟨r, A, B, n, D, hres, hR, ha, hD, hF, hP⟩ ?_
  rintro m a w ⟨r, A, B, n, D, hr, hR, ha, hD, hF, hP⟩
  cases m with
  | zero => exact absurd hr.symm hb
  | succ m =>
    rw [loopK_succ] at hr
    have hb1 : k A B n D ≠ .bad := seqK_bad (by rw [hr]; exact hb)
    obtain ⟨g1, g2⟩ := h A B n D hb1
    cases e : k A B n D with
    | bad => exact absurd e hb1
    | nm A1 B1 n1 D1 =>
      rw [e] at hr g1 g2
      have hr : loopK k m A1 B1 n1 D1 = res := hr
      have hle := loop_le h m A1 B1 n1 D1 (by rw [hr]; exact hb)
      rw [hr] at hle
      rw [next_irrel hb n n1] at hF
      refine g2 _ r w a hR ha hD (hF.left hle) ?_
      intro r' w' a' hs hR' ha' hD'
      exact ⟨m, Nat.lt_succ_self m, r', A1, B1, n1, D1, hr, hR', ha', hD', hF.right hs, hP.later hs⟩
    | ex id A1 B1 n1 D1 =>
      rw [e] at hr g1 g2
      have hr : Res.ex id A1 B1 n1 D1 = res := hr
      subst hr
      exact g2 _ r w a hR ha hD hF hP
    | rt A1 B1 n1 D1 =>
      rw [e] at hr g1 g2
      have hr : Res.rt A1 B1 n1 D1 = res := hr
      subst hr
      exact g2 _ r w a hR ha hD hF hP
/-- Regions that draw. -/
def DrawnS (P : Program) (E : Fns) : Prop := ∀ N id ops is fl, cOps P N ops ops.toList = some is → drawn ops.toList is = some fl → CodeS P N (.region id ops true) (dopsK E is fl)
theorem code_sound {E : Fns} (hE : Sound P E) (hDr : DrawnS P E) : ∀ (c : Code) (cc : C), cCode P N c = some cc → CodeS P N c (cc.run E)
  | .skip, cc, h => by simp only [cCode] at h; cases h; exact code_skip
  | .label l, cc, h => by simp only [cCode] at h; cases h; exact code_label
  | .region id ops draw, cc, h => by
    simp only [cCode] at h
    split at h
    · rename_i is his
      cases draw with
      | false => cases h; exact code_ops hE his
      | true =>
        obtain ⟨fl, hfl, rfl⟩ := map_some h
        exact hDr N id ops is fl his hfl
    · cases h
  | .seq c1 c2, cc, h => by
    simp only [cCode] at h
    split at h
    · rename_i k1 k2 h1 h2
      cases h
      exact code_seq (code_sound hE hDr c1 k1 h1) (code_sound hE hDr c2 k2 h2)
    · cases h
  | .cond o c1 c2, cc, h => by
    simp only [cCode] at h
    split at h
    · rename_i x k1 k2 hx h1 h2
      cases h
      exact code_cond hx (code_sound hE hDr c1 k1 h1) (code_sound hE hDr c2 k2 h2)
    · cases h
  | .block id c, cc, h => by
    simp only [cCode] at h
    obtain ⟨k, hk, rfl⟩ := map_some h
    exact code_block (code_sound hE hDr c k hk)
  | .loop c, cc, h => by
    simp only [cCode] at h
    obtain ⟨k, hk, rfl⟩ := map_some h
    exact code_loop (code_sound hE hDr c k hk) 1000000
  | .scope c, cc, h => by
    simp only [cCode] at h
    exact code_scope (code_sound hE hDr c cc h)
  | .exit id, cc, h => by simp only [cCode] at h; cases h; exact code_exit
  | .ret, cc, h => by simp only [cCode] at h; cases h; exact code_ret
  | .goto l, cc, h => by simp [cCode] at h
  | .rangeFunc .., cc, h => by simp [cCode] at h
  | .refuse _, cc, h => by simp [cCode] at h
end
end Go.Ev
end

section
namespace Go.Ev
open Go Go.RowKit
section
variable {P : Program} {r r' : Rho} {A : Tr AV} {a : Act} {w : World} {B : Tr AO} {n : Nat} {N : Nat}

/-- A deferred function that does nothing where nothing panics. -/
def Harmless (P : Program) (f : Nat) : Prop :=
  (∀ args w, (callFunc f args).run P w = .ok (.enter f args) w) ∧ ∀ args w, CallsD P f args .returning w fun e u' w' => (∃ v, e = .returned v) ∧ u' = .returning ∧ w' = w
theorem results_run {fn : Func} {rv : RV} (hc : cRes P fn.results.toList = some rv) {B : Tr AO} (hR : Rel P r B.get w) (ha : AgA r A N a) {l : AV} (hl : rv.ev A B = some l) :
    (results fn a.tmps).run P w = .ok (conc r (one l)) w ∧ ok r l := by
  have key : ∀ (rs : List ResultVar) (rv : RV) (l : AV), cRes P rs = some rv → rv.ev A B = some l → (rs.mapM (fun x => match x with
      | .tmp t => pure (a.tmps.getD t undef)
      | .cell d t => do loadVar t (← asAddr (a.tmps.getD d undef)) : ResultVar → Sem Value)).run P w = .ok (concL r l) w ∧ ok r l := by
    intro rs
    induction rs with
    | nil =>
      intro rv l h1 h2
      simp only [cRes] at h1; cases h1
      have : some AV.nil = some l := h2
      cases this
      exact ⟨by simp, trivial⟩
    | cons x rs ih =>
      intro rv l h1 h2
      cases x with
      | tmp t =>
        simp only [cRes] at h1
        obtain ⟨rv', h3, rfl⟩ := map_some h1
        obtain ⟨u, v, h4, h5, rfl⟩ := consO_some (show consO (A.get t) (rv'.ev A B) = some l from h2)
        obtain ⟨h6, h7⟩ := ih rv' v h3 h5
        obtain ⟨h8, h9⟩ := ha.1 t u h4
        have h8 : a.tmps.getD t undef = conc r u := h8
        refine ⟨?_, h9, h7⟩
        rw [List.mapM_cons]
        simp only [Sem.run_bind, Sem.run_pure, Result.andThen_ok, h6, h8, concL_cons]
      | cell d ty =>
        simp only [cRes] at h1
        split at h1
        · rename_i g sz rv' hg hs h3
          cases h1
          obtain ⟨u, v, h4, h5, rfl⟩ := consO_some (show consO (@Option.rec AV (fun _ => Option AV) none (ldAt g sz B) (A.get d)) (rv'.ev A B) = some l from h2)
          obtain ⟨p, hp, h4⟩ := orecO h4
          obtain ⟨h6, h7⟩ := ih rv' v h3 h5
          obtain ⟨h8, h9⟩ := ha.1 d p hp
          have h8 : a.tmps.getD d undef = conc r p := h8
          obtain ⟨id, off, c, m, kn, tp, rfl, hb, hl'⟩ := ldAt_some h4
          obtain ⟨k1, k2⟩ := ldAt_run hg hs hR hb (isSome_blk h9) hl'
          refine ⟨?_, k2, h7⟩
          have hone : (do let p ← asAddr (a.tmps.getD d undef); loadVar ty p : Sem Value).run P w = .ok (conc r u) w := by
            rw [h8, conc_p]
            simp only [asAddr, Sem.run_bind, Sem.run_pure, Result.andThen_ok, k1]
          rw [List.mapM_cons, Sem.run_bind]
          refine (congrArg (fun q => Result.andThen q _) hone).trans ?_
          simp only [Result.andThen_ok, Sem.run_bind, h6, Sem.run_pure, concL_cons]
        · cases h1
  obtain ⟨h1, h2⟩ := key fn.results.toList rv l hc hl
  refine ⟨?_, h2⟩
  have hm : (fn.results.mapM (fun x => match x with
      | .tmp t => pure (a.tmps.getD t undef)
      | .cell d t => do loadVar t (← asAddr (a.tmps.getD d undef)) : ResultVar → Sem Value)).run P w = .ok (concL r l).toArray w := by
    rw [Array.mapM_eq_mapM_toList]
    rw [← bind_pure_comp, Sem.run_bind, h1]
    simp
  unfold results
  rw [Sem.run_bind]
  refine (congrArg (fun q => Result.andThen q _) hm).trans ?_
  simp only [Result.andThen_ok, Sem.run_pure]
  congr 1
  cases l with
  | cons v t =>
    cases t with
    | cons x y =>
      have : ¬ (concL r (.cons v (.cons x y))).toArray.size = 1 := by simp
      rw [dif_neg this]
      rfl
    | _ => rfl
  | _ => rfl
theorem ok_one {l : AV} (h : ok r l) : ok r (one l) := by
  unfold one
  split
  · exact h
  · exact h.1
  · exact h
theorem retK_some {hl : Nat → Bool} {rv : RV} {A : Tr AV} {B : Tr AO} {n : Nat} : ∀ {D : DL} {v : AV} {B' : Tr AO} {n' : Nat}, retK hl rv A B n D = .ok v B' n' → B' = B ∧ n' = n ∧ (∃ l, rv.ev A B = some l ∧ v = one l) ∧ ∀ d ∈ D, hl d.1 = true
  | [], v, B', n', h => by
    have h : (@Option.rec AV (fun _ => FR) .bad (fun l => .ok (one l) B n) (rv.ev A B)) = .ok v B' n' := h
    cases e : rv.ev A B with
    | none => rw [e] at h; cases h
    | some l => rw [e] at h; cases h; exact ⟨rfl, rfl, ⟨l, rfl, rfl⟩, fun d hd => by cases hd⟩
  | d :: D, v, B', n', h => by
    have h : (@Bool.rec (fun _ => FR) .bad (retK hl rv A B n D) (hl d.1)) = .ok v B' n' := h
    cases e : hl d.1 with
    | false => rw [e] at h; cases h
    | true =>
      rw [e] at h
      obtain ⟨h1, h2, h3, h4⟩ := retK_some (D := D) h
      refine ⟨h1, h2, h3, fun x hx => ?_⟩
      rcases List.mem_cons.1 hx with rfl | hx
      · exact e
      · exact h4 x hx
/-- Leaving a frame whose deferred calls are harmless. -/
theorem leaves_ok {fn : Func} {tmps : Array Value} {R : Ending → World → Prop} {v : Value} (hr : (results fn tmps).run P w = .ok v w) (hR : R (.returned v) w) : ∀ {D : DL} {ds : List Deferred}, DefOK r D ds → (∀ d ∈ D, Harmless P d.1) → Leaves P fn tmps R ds .returning w
  | [], [], _, _ => ⟨v, hr, hR⟩
  | (f, l) :: D, d :: ds, ⟨⟨cap, h1, h2⟩, h3, h4⟩, hh => by
    obtain ⟨g1, g2⟩ := hh (f, l) (by simp)
    obtain ⟨tg, args⟩ := d
    simp only at h1 h2
    subst h1
    refine ⟨(by intro h; cases h), .func f, cap, f, args ++ cap, rfl, ?_, ?_⟩
    · simp only [invoke]
      exact g1 _ w
    · refine (g2 (args ++ cap) w).mono ?_
      rintro e u' w' ⟨⟨v', rfl⟩, hu, hw⟩
      show Leaves P fn tmps R ds (settle u') w'
      rw [hu, hw]
      exact leaves_ok hr hR h4 fun x hx => hh x (by simp [hx])
  | [], _ :: _, h, _ => h.elim
  | _ :: _, [], h, _ => h.elim
theorem fn_sound {E : Fns} (hE : Sound P E) (hDr : DrawnS P E) {hl : Nat → Bool} (hhl : ∀ f, hl f = true → Harmless P f) {f : Nat} {F : F} (hc : cFn P f = some F) {args v : AV} {B B' : Tr AO} {n n' : Nat} (h : F.run E hl args B n = .ok v B' n') : FnS P f args B n v B' n' := by
  unfold cFn at hc
  split at hc
  · rename_i fn hfn
    split at hc
    · rename_i c hbody
      cases hname : (fn.name == "runtime.NumGoroutine") with
      | true => rw [hname] at hc; cases hc
      | false =>
        rw [hname] at hc
        simp only [cond_false] at hc
        split at hc
        · rename_i cc rv hcc hrv
          cases hc
          unfold F.run at h
          have hcode := code_sound hE hDr c cc hcc
          have hb : cc.run E (setCells args .nil 0) B n [] ≠ .bad := by
            intro e
            have h : (@Res.rec (fun _ => FR) (retK hl rv) (fun _ _ _ _ _ => .bad) (retK hl rv) .bad (cc.run E (setCells args .nil 0) B n [])) = .ok v B' n' := h
            rw [e] at h; cases h
          obtain ⟨g1, g2⟩ := hcode (setCells args .nil 0) B n [] hb
          have hend : ∃ A1 D1, (cc.run E (setCells args .nil 0) B n [] = .nm A1 B' n' D1 ∨ cc.run E (setCells args .nil 0) B n [] = .rt A1 B' n' D1) ∧ (∃ l, rv.ev A1 B' = some l ∧ v = one l) ∧ ∀ d ∈ D1, hl d.1 = true := by
            have h : (@Res.rec (fun _ => FR) (retK hl rv) (fun _ _ _ _ _ => .bad) (retK hl rv) .bad (cc.run E (setCells args .nil 0) B n [])) = .ok v B' n' := h
            cases e : cc.run E (setCells args .nil 0) B n [] with
            | bad => exact absurd e hb
            | ex => rw [e] at h; cases h
            | nm A1 B1 n1 D1 =>
              rw [e] at h
              obtain ⟨rfl, rfl, h3, h4⟩ := retK_some (show retK hl rv A1 B1 n1 D1 = .ok v B' n' from h)
              exact ⟨A1, D1, .inl rfl, h3, h4⟩
            | rt A1 B1 n1 D1 =>
              rw [e] at h
              obtain ⟨rfl, rfl, h3, h4⟩ := retK_some (show retK hl rv A1 B1 n1 D1 = .ok v B' n' from h)
              exact ⟨A1, D1, .inr rfl, h3, h4⟩
          obtain ⟨A1, D1, hend, ⟨l, hl1, rfl⟩, hD1⟩ := hend
          have hn : nextOf n (cc.run E (setCells args .nil 0) B n []) = n' := by rcases hend with e | e <;> rw [e] <;> rfl
          rw [hn] at g1 g2
          refine ⟨g1, fun r w hR hargs hF o a K Q hK => ?_⟩
          have henter : (callFunc f (concL r args).toArray).run P w = .ok (.enter f (concL r args).toArray) w := by
            simp only [callFunc, Sem.run_bind, run_program, Result.andThen_ok, hfn]
            have hne : ¬ (fn.name == "runtime.NumGoroutine") = true := by rw [hname]; simp
            rw [if_neg hne, if_neg (by rw [hbody]; simp)]
            rfl
          rw [henter, Oper.upon_enter]
          refine calls_of_wp_defers hfn hbody ?_
          refine g2 _ r w _ hR ?_ trivial hF ?_
          · refine ⟨fun t u hu => ?_, by simp; omega⟩
            rcases setCells_get hu with ⟨k, hk, rfl, h2⟩ | ⟨h2, _⟩
            · rw [Nat.zero_add]
              have h3 := nth_concL (r := r) h2
              refine ⟨?_, ok_nth h2 hargs⟩
              have hk' : k < (concL r args).length := by rw [len_concL]; exact hk
              show (((concL r args).toArray ++ Array.replicate (fn.ntmps - (concL r args).toArray.size) undef)).getD k undef = _
              rw [Array.getD_eq_getD_getElem?, Array.getElem?_append_left (by simpa using hk')]
              simp [h3]
            · cases h2
          · have fin : ∀ r' w' a', Stp r B.get n w r' B'.get n' w' → Rel P r' B'.get w' → AgA r' A1 fn.ntmps a' → DefOK r' D1 a'.defers → Leaves P fn a'.tmps (fun
                | .returned v, w'' => K (a.put o.dst v) w''
                | .panicked chain, w'' => Q (.panic chain) a w''
                | .outgrown, _ => LetsOut Q) a'.defers .returning w' := by
              intro r' w' a' hs hR' ha' hD'
              obtain ⟨k1, k2⟩ := results_run hrv hR' ha' hl1
              exact leaves_ok k1 (hK r' w' hs hR' (ok_one k2)) hD' fun d hd => hhl _ (hD1 d hd)
            rcases hend with e | e
            · rw [e]; exact fin
            · rw [e]; exact fin
        · cases hc
    · cases hc
  · cases hc
/-- Contracts given by hand. -/
def ExtS (P : Program) (ext : Nat → Option (AV → Tr AO → Nat → FR)) : Prop := ∀ f g, ext f = some g → ∀ args B n v B' n', g args B n = .ok v B' n' → FnS P f args B n v B' n'
theorem evs_sound {prog : Nat → Option F} (hp : ∀ f F, prog f = some F → cFn P f = some F) {ext : Nat → Option (AV → Tr AO → Nat → FR)} (hx : ExtS P ext) {hl : Nat → Bool} (hhl : ∀ f, hl f = true → Harmless P f) (hDr : ∀ E, Sound P E → DrawnS P E) : ∀ fuel, Sound P (evs prog ext hl fuel)
  | 0, f, args, B, n, v, B', n', h => by cases h
  | fuel + 1, f, args, B, n, v, B', n', h => by
    have hE := evs_sound hp hx hhl hDr fuel
    have h : (@Option.rec _ (fun _ => FR) (@Option.rec _ (fun _ => FR) .bad (fun c => c.run (evs prog ext hl fuel) hl args B n) (prog f)) (fun g => g args B n) (ext f)) = .ok v B' n' := h
    cases e : ext f with
    | some g => rw [e] at h; exact hx f g e args B n v B' n' h
    | none =>
      rw [e] at h
      have h : (@Option.rec _ (fun _ => FR) .bad (fun c => c.run (evs prog ext hl fuel) hl args B n) (prog f)) = .ok v B' n' := h
      cases ep : prog f with
      | none => rw [ep] at h; cases h
      | some F => rw [ep] at h; exact fn_sound hE (hDr _ hE) hhl (hp f F ep) h
end
end Go.Ev
end

section
namespace Go.Ev
open Go Go.RowKit
section
variable {P : Program} {r r' : Rho} {A : Tr AV} {a : Act} {w : World} {B : Tr AO} {n : Nat} {N : Nat}

theorem o1 {α : Type} {x : Option α} {f : α → Res} {k : K} : seqK k (@Option.rec α (fun _ => Res) .bad f x) = @Option.rec α (fun _ => Res) .bad (fun u => seqK k (f u)) x := by cases x <;> rfl
theorem o2 {c : Bool} {x : Res} {k : K} : seqK k (@Bool.rec (fun _ => Res) .bad x c) = @Bool.rec (fun _ => Res) .bad (seqK k x) c := by cases c <;> rfl
theorem o3 {c : Bool} {x : Res} {k : K} : seqK k (bif c then x else .bad) = (bif c then seqK k x else .bad) := by cases c <;> rfl
theorem o4 {x : FR} {f : AV → Tr AO → Nat → Res} {k : K} : seqK k (@FR.rec (fun _ => Res) f .bad x) = @FR.rec (fun _ => Res) (fun v B n => seqK k (f v B n)) .bad x := by cases x <;> rfl
theorem o5 {k : K} {A : Tr AV} {B : Tr AO} {n : Nat} {D : DL} : seqK k (.nm A B n D) = k A B n D := rfl
/-- What stands behind an operation is met where it ends. -/
theorem run_nm (E : Fns) (i : I) (k : K) (A : Tr AV) (B : Tr AO) (n : Nat) (D : DL) : i.run E k A B n D = seqK k (i.run E Res.nm A B n D) := by
  cases i with
  | pure d p xs => show stPure d p xs k A B n D = seqK k (stPure d p xs Res.nm A B n D); simp only [stPure, o1, o5]
  | skip d => rfl
  | box d x => show stBox d x k A B n D = seqK k (stBox d x Res.nm A B n D); simp only [stBox, o1, o2, o5]
  | bsl d s l z p xs => show stBsl d s l z p xs k A B n D = seqK k (stBsl d s l z p xs Res.nm A B n D); simp only [stBsl, o1, o5]
  | ld d g s x => show stLd d g s x k A B n D = seqK k (stLd d g s x Res.nm A B n D); simp only [stLd, o1, o5]
  | st d s x y => show stSt d s x y k A B n D = seqK k (stSt d s x y Res.nm A B n D); simp only [stSt, o1, o5]
  | b2s d x => show stB2s d x k A B n D = seqK k (stB2s d x Res.nm A B n D); simp only [stB2s, o1, o5]
  | mkm d => rfl
  | mks d s z l c => show stMks d s z l c k A B n D = seqK k (stMks d s z l c Res.nm A B n D); simp only [stMks, o1, o3, o5]
  | lk d e z b x y => show stLk d e z b x y k A B n D = seqK k (stLk d e z b x y Res.nm A B n D); simp only [stLk, o1, o5]
  | mu d e m q x => show stMu d e m q x k A B n D = seqK k (stMu d e m q x Res.nm A B n D); simp only [stMu, o1, o5]
  | app d s x y => show stApp d s x y k A B n D = seqK k (stApp d s x y Res.nm A B n D); simp only [stApp, o1, o2, o4, o5]
  | appz d s z x y => show stAppz d s z x y k A B n D = seqK k (stAppz d s z x y Res.nm A B n D); simp only [stAppz, o1, o2, o4, o5]
  | mlen d x => show stMlen d x k A B n D = seqK k (stMlen d x Res.nm A B n D); simp only [stMlen, o1, o5]
  | call d x xs => show stCall E d x xs k A B n D = seqK k (stCall E d x xs Res.nm A B n D); simp only [stCall, o1, o4, o5]
  | dfr d x xs => show stDfr d x xs k A B n D = seqK k (stDfr d x xs Res.nm A B n D); simp only [stDfr, o1, o5]
theorem seqK_assoc (k1 k2 : K) (x : Res) : seqK k1 (seqK k2 x) = seqK (fun A B n D => seqK k1 (k2 A B n D)) x := by cases x <;> rfl
theorem gstep_nm (E : Fns) (t : Nat) (want : Bool) (d : Option Nat) (i : I) (k : K) (A : Tr AV) (B : Tr AO) (n : Nat) (D : DL) : gstep E t want d i k A B n D = seqK k (gstep E t want d i Res.nm A B n D) := by
  simp only [gstep, o1]
  cases A.get t with
  | none => rfl
  | some v =>
    show (@Bool.rec (fun _ => Res) (stSkip d k A B n D) (i.run E k A B n D) (isB want v)) = seqK k (@Bool.rec (fun _ => Res) (stSkip d Res.nm A B n D) (i.run E Res.nm A B n D) (isB want v))
    cases isB want v with
    | false => rfl
    | true => exact run_nm E i k A B n D
/-- A pure operation looks at no memory; one that makes memory only adds; one that looks leaves all. -/
theorem kind0_any {E : Fns} {i : I} (hk : kindOf i = 0) {k : K} {D : DL} (h : i.run E k A B n D ≠ .bad) : ∃ v, ∀ k B n, i.run E k A B n D = k (putD A (slotOf i) v) B n D := by
  cases i <;> try cases hk
  rename_i d p xs
  have h : stPure d p xs k A B n D ≠ .bad := h
  unfold stPure at h
  obtain ⟨l, hx, e1⟩ := orec h
  rw [e1] at h
  obtain ⟨v, hp, e2⟩ := orec h
  refine ⟨v, fun k B n => ?_⟩
  show stPure d p xs k A B n D = _
  unfold stPure
  rw [hx]
  show (@Option.rec AV (fun _ => Res) .bad (fun v => k (putD A d v) B n D) (p.ev l)) = _
  rw [hp]; rfl
theorem kind1_any {E : Fns} {i : I} (hk : kindOf i = 1) {k : K} {D : DL} (h : i.run E k A B n D ≠ .bad) : ∃ v, ∀ k n, i.run E k A B n D = k (putD A (slotOf i) v) B n D := by
  have hn : i.run E Res.nm A B n D ≠ .bad := fun e => h (by rw [run_nm, e]; rfl)
  cases i <;> try cases hk
  case ld d g s x =>
    have hn : stLd d g s x Res.nm A B n D ≠ .bad := hn
    unfold stLd at hn
    obtain ⟨l, hx, e1⟩ := orec hn
    rw [e1] at hn
    obtain ⟨v, hp, e2⟩ := orec hn
    refine ⟨v, fun k n => ?_⟩
    show stLd d g s x k A B n D = _
    unfold stLd
    rw [hx]
    show (@Option.rec AV (fun _ => Res) .bad (fun v => k (putD A d v) B n D) (ldAt g s B l)) = _
    rw [hp]; rfl
  case b2s d x =>
    have hn : stB2s d x Res.nm A B n D ≠ .bad := hn
    unfold stB2s at hn
    obtain ⟨u, hx, e1⟩ := orec hn
    rw [e1] at hn
    obtain ⟨c, hp, e2⟩ := orec hn
    rw [e2] at hn
    obtain ⟨l, hl, e3⟩ := orec hn
    refine ⟨.s l, fun k n => ?_⟩
    show stB2s d x k A B n D = _
    unfold stB2s
    rw [hx]
    show (@Option.rec AV (fun _ => Res) .bad (fun c => @Option.rec (List Nat) (fun _ => Res) .bad (fun l => k (putD A d (.s l)) B n D) (bytesOf c)) (cellsOf B 1 u)) = _
    rw [hp]
    show (@Option.rec (List Nat) (fun _ => Res) .bad (fun l => k (putD A d (.s l)) B n D) (bytesOf c)) = _
    rw [hl]; rfl
  case lk d ek z okb x y =>
    have hn : stLk d ek z okb x y Res.nm A B n D ≠ .bad := hn
    unfold stLk at hn
    obtain ⟨m, hx, e1⟩ := orec hn
    rw [e1] at hn
    obtain ⟨q, hy, e2⟩ := orec hn
    rw [e2] at hn
    obtain ⟨es, hm, e3⟩ := orec hn
    rw [e3] at hn
    obtain ⟨res, hf, e4⟩ := orec hn
    refine ⟨@Option.rec AV (fun _ => AV) (okOf okb z false) (fun v => okOf okb v true) res, fun k n => ?_⟩
    show stLk d ek z okb x y k A B n D = _
    unfold stLk
    rw [hx]
    show (@Option.rec AV (fun _ => Res) .bad (fun q => @Option.rec (List (AV × AV)) (fun _ => Res) .bad (fun es => @Option.rec (Option AV) (fun _ => Res) .bad (fun r => k (putD A d (@Option.rec AV (fun _ => AV) (okOf okb z false) (fun v => okOf okb v true) r)) B n D) (@Bool.rec (fun _ => Option (Option AV)) none (findE ek q es) (keyB ek q))) (mapAt B m)) (y.ev A)) = _
    rw [hy]
    show (@Option.rec (List (AV × AV)) (fun _ => Res) .bad (fun es => @Option.rec (Option AV) (fun _ => Res) .bad (fun r => k (putD A d (@Option.rec AV (fun _ => AV) (okOf okb z false) (fun v => okOf okb v true) r)) B n D) (@Bool.rec (fun _ => Option (Option AV)) none (findE ek q es) (keyB ek q))) (mapAt B m)) = _
    rw [hm]
    show (@Option.rec (Option AV) (fun _ => Res) .bad (fun r => k (putD A d (@Option.rec AV (fun _ => AV) (okOf okb z false) (fun v => okOf okb v true) r)) B n D) (@Bool.rec (fun _ => Option (Option AV)) none (findE ek q es) (keyB ek q))) = _
    rw [hf]; rfl
  case mlen d x =>
    have hn : stMlen d x Res.nm A B n D ≠ .bad := hn
    unfold stMlen at hn
    obtain ⟨es, hx, e1⟩ := orec hn
    refine ⟨.i .i64 (.ofNat es.length), fun k n => ?_⟩
    show stMlen d x k A B n D = _
    unfold stMlen
    rw [hx]; rfl
theorem kind2_any {E : Fns} {i : I} (hk : kindOf i = 2) {k : K} {D : DL} (h : i.run E k A B n D ≠ .bad) : ∃ v ob, ∀ k B, i.run E k A B n D = k (putD A (slotOf i) v) (B.set n ob) (n + 1) D := by
  have hn : i.run E Res.nm A B n D ≠ .bad := fun e => h (by rw [run_nm, e]; rfl)
  cases i <;> try cases hk
  case box d x =>
    have hn : stBox d x Res.nm A B n D ≠ .bad := hn
    unfold stBox at hn
    obtain ⟨v, hx, e1⟩ := orec hn
    rw [e1] at hn
    obtain ⟨hb, e2⟩ := brec hn
    refine ⟨.p n 0, .row v.cells.len true 0 (setCells v.cells .nil 0), fun k B => ?_⟩
    show stBox d x k A B n D = _
    unfold stBox
    rw [hx]
    show (@Bool.rec (fun _ => Res) .bad (k (putD A d (.p n 0)) (B.set n (.row v.cells.len true 0 (setCells v.cells .nil 0))) (Nat.succ n) D) (oneB v)) = _
    rw [hb]; rfl
  case bsl d s l z ps xs =>
    have hn : stBsl d s l z ps xs Res.nm A B n D ≠ .bad := hn
    unfold stBsl at hn
    obtain ⟨v, hx, e1⟩ := orec hn
    rw [e1] at hn
    obtain ⟨c, hf, e2⟩ := orec hn
    refine ⟨.sl n 0 l l, .row (l * s) true 0 (setCells c .nil 0), fun k B => ?_⟩
    show stBsl d s l z ps xs k A B n D = _
    unfold stBsl
    rw [hx]
    show (@Option.rec AV (fun _ => Res) .bad (fun c => k (putD A d (.sl n 0 l l)) (B.set n (.row (l * s) true 0 (setCells c .nil 0))) (Nat.succ n) D) (fillB ps (repCells z.cells l) v)) = _
    rw [hf]; rfl
  case mkm d => exact ⟨.m n, .map [], fun k B => rfl⟩
  case mks d s z l c =>
    have hn : stMks d s z l c Res.nm A B n D ≠ .bad := hn
    unfold stMks at hn
    obtain ⟨m, hm, e1⟩ := orec hn
    rw [e1] at hn
    obtain ⟨m', hm', e2⟩ := orec hn
    rw [e2] at hn
    obtain ⟨hb, e3⟩ := crec hn
    refine ⟨.sl n 0 m m', .row (m' * s) true 0 (setCells (repCells z.cells m') .nil 0), fun k B => ?_⟩
    show stMks d s z l c k A B n D = _
    unfold stMks
    rw [hm]
    show (@Option.rec Nat (fun _ => Res) .bad (fun c => bif m.ble c && c.ble 1000000 then k (putD A d (.sl n 0 m c)) (B.set n (.row (c * s) true 0 (setCells (repCells z.cells c) .nil 0))) (Nat.succ n) D else .bad) ((c.ev A).bind natOf)) = _
    rw [hm']
    show (bif m.ble m' && m'.ble 1000000 then k (putD A d (.sl n 0 m m')) (B.set n (.row (m' * s) true 0 (setCells (repCells z.cells m') .nil 0))) (Nat.succ n) D else .bad) = _
    rw [hb]
    rfl
end
end Go.Ev
end

section
namespace Go.Ev
open Go Go.RowKit
/-! Regions that draw their order: each operation is met once -/
section
variable {P : Program} {ops : Array Oper} {md : Region.Mode} {Q : Exit → Act → World → Prop}

/-- How many are not yet listed. -/
def unlisted (listed : Array Bool) : Nat := listed.toList.count false
theorem unlisted_set : ∀ (l : List Bool) (i : Nat), l[i]? = some false → (l.set i true).count false + 1 = l.count false
  | [], _, h => by simp at h
  | b :: l, 0, h => by simp at h; subst h; simp
  | b :: l, i + 1, h => by
    simp at h
    have ih := unlisted_set l i h
    simp only [List.set_cons_succ, List.count_cons]
    omega
theorem ready_mem {listed : Array Bool} {i : Nat} (h : i ∈ Region.ready md ops listed) : listed.getD i true = false ∧ ∃ o, ops[i]? = some o ∧ ∀ e ∈ o.after, Region.binds md e = true → listed.getD e.on false = true := by
  simp only [Region.ready, List.mem_filter, List.mem_range, Bool.and_eq_true, Bool.not_eq_true'] at h
  obtain ⟨h1, h2, h3⟩ := h
  have ho : ops[i]? = some ops[i] := Array.getElem?_eq_getElem h1
  rw [ho] at h3
  refine ⟨h2, ops[i], ho, fun e he hb => ?_⟩
  simp only [Option.map_some, Option.getD_some] at h3
  have := Array.all_eq_true_iff_forall_mem.1 h3 e he
  simpa [hb] using this
theorem getD_false {listed : Array Bool} {i : Nat} (hl : listed.getD i true = false) : listed[i]? = some false := by
  cases hc : listed[i]? with
  | none => simp [Array.getD_eq_getD_getElem?, hc] at hl
  | some b => simp [Array.getD_eq_getD_getElem?, hc] at hl; rw [hl]
theorem wpAny_inv (I : Array Bool → Act → World → Prop)
    (hstep : ∀ listed a w i, I listed a w → i ∈ Region.ready md ops listed → wpOp P ops Q i (I (listed.setIfInBounds i true)) a w)
    (hend : ∀ listed a w, I listed a w → Region.ready md ops listed = [] → Q .normal a w) :
    ∀ (fuel : Nat) (listed : Array Bool) (a : Act) (w : World), unlisted listed ≤ fuel → I listed a w → wpAny P md ops Q fuel listed a w
  | 0, listed, a, w, hf, h => by
    have hr : Region.ready md ops listed = [] := by
      rw [List.eq_nil_iff_forall_not_mem]
      intro i hi
      have h2 := getD_false (ready_mem hi).1
      rw [← Array.getElem?_toList] at h2
      have := unlisted_set _ _ h2
      unfold unlisted at hf
      omega
    exact ⟨hr, hend _ _ _ h hr⟩
  | fuel + 1, listed, a, w, hf, h => by
    refine ⟨fun hr => hend _ _ _ h hr, fun i hi => ?_⟩
    have h2 := getD_false (ready_mem hi).1
    rw [← Array.getElem?_toList] at h2
    have h3 := unlisted_set _ _ h2
    refine wpOp_mono (fun a' w' h' => wpAny_inv I hstep hend fuel _ a' w' ?_ h') (hstep _ _ _ _ h hi)
    unfold unlisted at hf ⊢
    rw [Array.toList_setIfInBounds]
    omega

/-- What is done, one more. -/
def updB (d : Nat → Bool) (k : Nat) : Nat → Bool := fun j => if j = k then true else d j
/-- The operations wait for earlier ones alone. -/
def forwardB (l : List Oper) : Bool := l.zipIdx.all fun (o, i) => o.after.all fun e => decide (e.on < i)
theorem forward_all {l : List Oper} (hf : forwardB l = true) {listed : Array Bool} (hl : listed.size = l.length) (hr : Region.ready .any l.toArray listed = []) : ∀ n i, i < n → i < l.length → listed.getD i false = true
  | 0, i, h, _ => by omega
  | n + 1, i, h, hi => by
    by_cases hc : listed.getD i false = true
    · exact hc
    · have : i ∈ Region.ready .any l.toArray listed := by
        simp only [Region.ready, List.mem_filter, List.mem_range, Bool.and_eq_true, Bool.not_eq_true']
        have ho : l.toArray[i]? = some l[i] := by simp [hi]
        refine ⟨by simpa using hi, ?_, ?_⟩
        · have h2 : listed[i]? = some listed[i] := Array.getElem?_eq_getElem (by omega)
          simp [Array.getD_eq_getD_getElem?, h2] at hc ⊢
          exact hc
        · rw [ho]
          simp only [Option.map_some, Option.getD_some]
          rw [Array.all_eq_true_iff_forall_mem]
          intro e he
          have hfw := List.all_eq_true.1 hf (l[i], i) (by rw [List.mem_zipIdx_iff_getElem?]; simp [hi])
          have hlt := Array.all_eq_true_iff_forall_mem.1 hfw e he
          simp only [decide_eq_true_eq] at hlt
          rw [forward_all hf hl hr n e.on (by omega) (by omega)]
          simp
      rw [hr] at this
      cases this
theorem wp_region_inv {id : Nat} {a : Act} {w : World} {l : List Oper} (hm : P.follows .mixedOrders = true) (hf : forwardB l = true) (I : (Nat → Bool) → Act → World → Prop)
    (h0 : I (fun _ => false) a w.drew)
    (hs : ∀ d a w k o, l[k]? = some o → d k = false → (∀ e ∈ o.after, Region.binds .any e = true → d e.on = true) → I d a w →
      if Region.wanted o (yielded l.toArray a.tmps) then o.wp P a w (I (updB d k)) Q else I (updB d k) (a.put o.dst undef) w)
    (hend : ∀ d a' w', (∀ i < l.length, d i = true) → I d a' w' → Q .normal a' w') : (Code.region id l.toArray true).wp P Q a w := by
  refine wp_region_any hm (wpAny_inv (fun listed a' w' => listed.size = l.length ∧ I (fun i => listed.getD i false) a' w') ?_ ?_ _ _ _ _ ?_ ⟨by simp, ?_⟩)
  · intro listed a' w' i ⟨hsz, hI⟩ hi
    obtain ⟨h1, o, ho, hdep⟩ := ready_mem hi
    have ho' : l[i]? = some o := by simpa using ho
    have hil : i < l.length := (List.getElem?_eq_some_iff.1 ho').1
    have h2 := getD_false h1
    have hst := hs (fun j => listed.getD j false) a' w' i o ho' (by simp [Array.getD_eq_getD_getElem?, h2]) (fun e he hb => hdep e he hb) hI
    have hup : I (updB (fun j => listed.getD j false) i) = I (fun j => (listed.setIfInBounds i true).getD j false) := by
      congr 1
      funext j
      unfold updB
      by_cases hj : j = i
      · subst hj
        simp [Array.getD_eq_getD_getElem?, show j < listed.size by omega]
      · rw [if_neg hj]
        simp only [Array.getD_eq_getD_getElem?]
        rw [Array.getElem?_setIfInBounds_ne (Ne.symm hj)]
    rw [hup] at hst
    unfold wpOp
    simp only [ho]
    split
    · rename_i hw
      rw [if_pos hw] at hst
      exact .inl (Oper.wp_mono (fun a w h => ⟨by simpa using hsz, h⟩) hst)
    · rename_i hw
      rw [if_neg hw] at hst
      exact ⟨by simpa using hsz, hst⟩
  · intro listed a' w' ⟨hsz, hI⟩ hr
    exact hend _ a' w' (fun i hi => forward_all hf hsz hr (i + 1) i (by omega) hi) hI
  · unfold unlisted
    simp [Array.toList_replicate]
  · have e : (fun i => (Array.replicate l.toArray.size false).getD i false) = fun _ => false := by
      funext i
      simp only [Array.getD_eq_getD_getElem?, Array.getElem?_replicate]
      split <;> rfl
    rw [e]
    exact h0
end

/-! Memory in two parts -/
def ovl (H X : Hf) : Hf := fun id => match X id with
  | some o => some o
  | none => H id
theorem ovl_x {H X : Hf} {id : Nat} {o : AO} (h : X id = some o) : ovl H X id = some o := by simp only [ovl, h]
theorem ovl_h {H X : Hf} {id : Nat} (h : X id = none) : ovl H X id = H id := by simp only [ovl, h]
theorem ovl_some {H X : Hf} {id : Nat} {o : AO} (h : ovl H X id = some o) : X id = some o ∨ (X id = none ∧ H id = some o) := by
  cases e : X id with
  | some u => rw [ovl_x e] at h; exact .inl h
  | none => rw [ovl_h e] at h; exact .inr ⟨rfl, h⟩
/-- What is known of the one is known of the other. -/
def Sub (r : Rho) (H H' : Hf) : Prop := ∀ id o p, H id = some o → r id = some p → H' id = some o
section
variable {P : Program} {r r' r'' : Rho} {H H' H'' X : Hf} {w w' w'' : World} {n n' n'' a b : Nat}
theorem Rel.sub2 (h : Rel P r H w) (hs : Sub r H' H) : Rel P r H' w :=
  ⟨h.glob, fun id m kn tp c b K h1 h2 => h.row id m kn tp c b K (hs _ _ _ h1 h2) h2, fun id es b K h1 h2 => h.map id es b K (hs _ _ _ h1 h2) h2,
   fun id id' o o' p p' h1 h2 h3 h4 h5 => h.inj id id' o o' p p' (hs _ _ _ h1 h3) (hs _ _ _ h2 h4) h3 h4 h5⟩
theorem Stp.wide2 (h : Stp r H n w r' H' n' w') (hs : Sub r H H'') : Stp r H'' n w r' H' n' w' :=
  ⟨h.os, h.tape, h.output, h.size, h.ext, h.dom, fun b hb hn => h.keep b hb fun id o p h1 h2 => hn id o p (hs _ _ _ h1 h2) h2,
   fun id o p h1 h2 => (h.new id o p h1 h2).imp_right fun ⟨id0, o0, p0, h3, h4, h5⟩ => ⟨id0, o0, p0, hs _ _ _ h3 h4, h4, h5⟩, h.le⟩
theorem Stp.less (h : Stp r H n w r' H' n' w') (hs : Sub r' H'' H') : Stp r H n w r' H'' n' w' :=
  ⟨h.os, h.tape, h.output, h.size, h.ext, h.dom, h.keep, fun id o p h1 h2 => h.new id o p (hs _ _ _ h1 h2) h2, h.le⟩
theorem Stp.join (h : Stp r H n w r' H' n' w') (k : Stp r' H' a w' r'' H'' b w'') (ha : n ≤ a) (hb : b ≤ n') : Stp r H n w r'' H'' n' w'' := by
  refine ⟨⟨k.os.1.trans h.os.1, h.os.2.trans k.os.2⟩, k.tape.trans h.tape, k.output.trans h.output, Nat.le_trans h.size k.size, h.ext.trans k.ext, ?_, ?_, ?_, h.le⟩
  · intro id hid
    rcases k.dom id hid with h1 | h1
    · exact h.dom id h1
    · exact .inr (by omega)
  · intro b hb hn
    have h1 := h.keep b hb hn
    refine (k.keep b (Nat.lt_of_lt_of_le hb h.size) ?_).trans h1
    intro id o p ho hp e
    rcases h.new id o p ho hp with h2 | ⟨id0, o0, p0, h3, h4, h5⟩
    · omega
    · exact hn id0 o0 p0 h3 h4 (h5.trans e)
  · intro id o p ho hp
    rcases k.new id o p ho hp with h1 | ⟨id0, o0, p0, h3, h4, h5⟩
    · exact .inl (Nat.le_trans h.size h1)
    · rcases h.new id0 o0 p0 h3 h4 with h6 | ⟨id1, o1, p1, h7, h8, h9⟩
      · exact .inl (by omega)
      · exact .inr ⟨id1, o1, p1, h7, h8, h9.trans h5⟩
/-- What stands apart stays. -/
theorem frame (hR : Rel P r (ovl H X) w) (hS : Stp r H n w r' H' n' w') (hR' : Rel P r' H' w') (hd : ∀ id o, X id = some o → H id = none) (hX : ∀ id o p, X id = some o → r' id = some p → r id = some p) :
    Rel P r' (ovl H' X) w' ∧ Stp r (ovl H X) n w r' (ovl H' X) n' w' := by
  have hoh : ∀ id o, H id = some o → ovl H X id = some o := by
    intro id o h
    cases e : X id with
    | some u => rw [hd id u e] at h; cases h
    | none => rw [ovl_h e]; exact h
  have hb : ∀ id o p, X id = some o → r id = some p → w'.heap[p.1]? = w.heap[p.1]? := by
    intro id o p h1 h2
    refine hS.keep p.1 (hR.lt (ovl_x h1) h2) fun id2 o2 p2 h3 h4 h5 => ?_
    have := hR.inj id2 id o2 o p2 p (hoh _ _ h3) (ovl_x h1) h4 h2 h5
    subst this
    rw [hd _ _ h1] at h3; cases h3
  have hmix : ∀ id id' o o' p p', X id = some o → H' id' = some o' → r' id = some p → r' id' = some p' → p.1 = p'.1 → False := by
    intro id id' o o' p p' h1 h2 h3 h4 h5
    have h6 := hX _ _ _ h1 h3
    have h7 := hR.lt (ovl_x h1) h6
    rcases hS.new id' o' p' h2 h4 with h8 | ⟨id0, o0, p0, h8, h9, h10⟩
    · omega
    · have := hR.inj id id0 o o0 p p0 (ovl_x h1) (hoh _ _ h8) h6 h9 (by omega)
      subst this
      rw [hd _ _ h1] at h8; cases h8
  refine ⟨⟨hR'.glob, ?_, ?_, ?_⟩, ⟨hS.os, hS.tape, hS.output, hS.size, hS.ext, hS.dom, ?_, ?_, hS.le⟩⟩
  · intro id m kn tp c b K h1 h2
    rcases ovl_some h1 with h3 | ⟨_, h3⟩
    · have h4 := hX _ _ _ h3 h2
      exact (hR.row id m kn tp c b K (ovl_x h3) h4).keep hS.ext (hb id _ _ h3 h4)
    · exact hR'.row id m kn tp c b K h3 h2
  · intro id es b K h1 h2
    rcases ovl_some h1 with h3 | ⟨_, h3⟩
    · have h4 := hX _ _ _ h3 h2
      exact (hR.map id es b K (ovl_x h3) h4).keep hS.ext (hb id _ _ h3 h4)
    · exact hR'.map id es b K h3 h2
  · intro id id' o o' p p' h1 h2 h3 h4 h5
    rcases ovl_some h1 with g1 | ⟨_, g1⟩ <;> rcases ovl_some h2 with g2 | ⟨_, g2⟩
    · exact hR.inj id id' o o' p p' (ovl_x g1) (ovl_x g2) (hX _ _ _ g1 h3) (hX _ _ _ g2 h4) h5
    · exact (hmix id id' o o' p p' g1 g2 h3 h4 h5).elim
    · exact (hmix id' id o' o p' p g2 g1 h4 h3 h5.symm).elim
    · exact hR'.inj id id' o o' p p' g1 g2 h3 h4 h5
  · intro b hb' hn
    exact hS.keep b hb' fun id o p h1 h2 => hn id o p (hoh _ _ h1) h2
  · intro id o p h1 h2
    rcases ovl_some h1 with h3 | ⟨_, h3⟩
    · exact .inr ⟨id, o, p, ovl_x h3, hX _ _ _ h3 h2, rfl⟩
    · rcases hS.new id o p h3 h2 with h4 | ⟨id0, o0, p0, h4, h5, h6⟩
      · exact .inl h4
      · exact .inr ⟨id0, o0, p0, hoh _ _ h4, h5, h6⟩
end
theorem Tr.single_same {α : Type} {x : Option α} : ∀ {k n : Nat}, n + 1 < 2 ^ k → (Tr.single x k n).get n = x
  | 0, n, h => by simp at h
  | k + 1, 0, _ => rfl
  | k + 1, n + 1, h => by
    rw [Tr.single_succ_succ]
    have : 2 ^ (k + 1) = 2 * 2 ^ k := by rw [Nat.pow_succ]; omega
    split <;> rename_i hp <;> rw [Tr.get_succ]
    · rw [if_pos hp]; exact Tr.single_same (by omega)
    · rw [if_neg hp]; exact Tr.single_same (by omega)
theorem Tr.nil_set {α : Type} {n : Nat} {x : α} (h : n < 1000000) : ((Tr.nil : Tr α).set n x).get n = some x := Tr.single_same (k := 24) (by omega)
end Go.Ev
end

section
namespace Go.Ev
open Go Go.RowKit
section
variable {P : Program} {N : Nat}

/-! What the form says -/
structure Form (L : List Oper) (an ks : List Nat) (sl : List (List Nat)) : Prop where
  fw : ∀ (i : Nat) (o : Oper), L[i]? = some o → ∀ e ∈ o.after, e.on < i
  back : ∀ (i : Nat) (o : Oper) (j : Nat), L[i]? = some o → j < L.length → bit an i j = true → ∃ e ∈ o.after, Region.binds .any e = true ∧ (e.on = j ∨ bit an e.on j = true)
  uniq : ∀ (i j : Nat) (o o' : Oper) (d : Nat), L[i]? = some o → L[j]? = some o' → o.dst = some d → o'.dst = some d → i = j
  reads : ∀ (i k : Nat) (o : Oper) (t : Nat), i < L.length → L[k]? = some o → t ∈ sl.getD i [] → o.dst = some t → k = i ∨ bit an i k = true ∨ bit an k i = true
  acts : ∀ i j : Nat, i < j → j < L.length → ks.getD j 0 = 3 → (ks.getD i 0 = 3 ∨ ks.getD i 0 = 2) → bit an j i = true
  kinds : ∀ k ∈ ks, k ≠ 4
theorem zip_at {l : List Oper} {i : Nat} {o : Oper} (h : l[i]? = some o) : (o, i) ∈ l.zipIdx := List.mem_zipIdx_iff_getElem?.2 h
theorem len_of {α : Type} {l : List α} {i : Nat} {o : α} (h : l[i]? = some o) : i < l.length := (List.getElem?_eq_some_iff.1 h).1
theorem form_of {L : List Oper} {an ks : List Nat} {sl : List (List Nat)} (h : formB L an ks sl = true) : Form L an ks sl := by
  simp only [formB, Bool.and_eq_true] at h
  obtain ⟨⟨⟨⟨⟨h1, h2⟩, h3⟩, h4⟩, h5⟩, h6⟩ := h
  refine ⟨?_, ?_, ?_, ?_, ?_, ?_⟩
  · intro i o ho e he
    have := List.all_eq_true.1 h1 _ (zip_at ho)
    have := List.all_eq_true.1 this e (Array.mem_toList_iff.2 he)
    simpa using this
  · intro i o j ho hj hb
    have := List.all_eq_true.1 h2 _ (zip_at ho)
    have := List.all_eq_true.1 this j (List.mem_range.2 hj)
    simp only [hb, Bool.not_true, Bool.false_or, List.any_eq_true, Bool.and_eq_true, Bool.or_eq_true, beq_iff_eq] at this
    obtain ⟨e, he, g1, g2⟩ := this
    exact ⟨e, Array.mem_toList_iff.1 he, g1, g2⟩
  · intro i j o o' d hi hj hd hd'
    have := List.all_eq_true.1 h3 i (List.mem_range.2 (len_of hi))
    have := List.all_eq_true.1 this j (List.mem_range.2 (len_of hj))
    simp only [hi, hj, Option.bind_some, hd, hd', Bool.or_eq_true, beq_iff_eq, bne_self_eq_false] at this
    rcases this with h | h
    · exact h
    · cases h
  · intro i k o t hi hk ht hd
    have := List.all_eq_true.1 h4 i (List.mem_range.2 hi)
    have := List.all_eq_true.1 this t ht
    have := List.all_eq_true.1 this k (List.mem_range.2 (len_of hk))
    simp only [hk, Option.bind_some, hd, bne_self_eq_false, Bool.false_or, Bool.or_eq_true, beq_iff_eq] at this
    rcases this with (h | h) | h
    · exact .inl h
    · exact .inr (.inl h)
    · exact .inr (.inr h)
  · intro i j hij hj h3' h2'
    have := List.all_eq_true.1 h5 j (List.mem_range.2 hj)
    have := List.all_eq_true.1 this i (List.mem_range.2 (by omega))
    have hq : (decide (i < j) && ks.getD j 0 == 3 && (ks.getD i 0 == 3 || ks.getD i 0 == 2)) = true := by
      rcases h2' with h | h
      · rw [h3', h]; simp [hij]
      · rw [h3', h]; simp [hij]
    rw [hq] at this
    simpa using this
  · intro k hk
    have := List.all_eq_true.1 h6 k hk
    simpa using this
theorem Form.lt {L : List Oper} {an ks : List Nat} {sl : List (List Nat)} (h : Form L an ks sl) : ∀ (i : Nat) (j : Nat), i < L.length → j < L.length → bit an i j = true → j < i := by
  intro i
  induction i using Nat.strongRecOn with
  | ind i ih =>
    intro j hi hj hb
    obtain ⟨e, he, _, h2⟩ := h.back i _ j (List.getElem?_eq_getElem hi) hj hb
    have h3 := h.fw i _ (List.getElem?_eq_getElem hi) e he
    rcases h2 with h2 | h2
    · omega
    · have := ih e.on h3 j (by omega) hj h2
      omega
theorem Form.forward {L : List Oper} {an ks : List Nat} {sl : List (List Nat)} (h : Form L an ks sl) : forwardB L = true := by
  unfold forwardB
  rw [List.all_eq_true]
  rintro ⟨o, i⟩ hm
  have ho := List.mem_zipIdx_iff_getElem?.1 hm
  dsimp only at ho ⊢
  rw [Array.all_eq_true_iff_forall_mem]
  intro e he
  simpa using h.fw i o ho e he

/-! The run in order -/
/-- One step of the run in order. -/
def StepP (P : Program) (E : Fns) (N : Nat) (ops : Array Oper) (D : DL) (o : Oper) (sl : List Nat) (kd : Nat) (q : K × Option Nat) (A : Tr AV) (B : Tr AO) (n : Nat) (A' : Tr AV) (B' : Tr AO) (n' : Nat) : Prop :=
  ∃ i, cOp P o = some i ∧ inside N o.dst = true ∧ kd = kindOf i ∧
    ((o.guard = none ∧ sl = i.slots ∧ q = (i.run E Res.nm, slotOf i) ∧ i.run E Res.nm A B n D = .nm A' B' n' D) ∨
     ∃ j want t v, o.guard = some (j, want) ∧ (ops[j]?).bind (·.dst) = some t ∧ sl = t :: i.slots ∧ q = (gstep E t want o.dst i Res.nm, o.dst) ∧ A.get t = some v ∧
       ((isB want v = true ∧ i.run E Res.nm A B n D = .nm A' B' n' D) ∨ (isB want v = false ∧ A' = putD A o.dst undefA ∧ B' = B ∧ n' = n)))
theorem runS_nil (E : Fns) (fin : List Res → K) (acc : List Res) : Is.nil.runS E fin acc = fin acc := rfl
theorem runS_cons (E : Fns) (fin : List Res → K) (acc : List Res) (i : I) (r : Is) : (Is.cons i r).runS E fin acc = i.run E (fun A B n D => r.runS E fin (.nm A B n D :: acc) A B n D) := rfl
theorem runS_gcons (E : Fns) (fin : List Res → K) (acc : List Res) (t : Nat) (want : Bool) (d : Option Nat) (i : I) (r : Is) : (Is.gcons t want d i r).runS E fin acc = gstep E t want d i (fun A B n D => r.runS E fin (.nm A B n D :: acc) A B n D) := rfl
/-- The stages. -/
def stages (Ak : Nat → Tr AV) (Bk : Nat → Tr AO) (nk : Nat → Nat) (D : DL) (m : Nat) : List Res := (List.range m).map fun k => .nm (Ak k) (Bk k) (nk k) D
def pre {α : Type} (x : α) (f : Nat → α) : Nat → α
  | 0 => x
  | k + 1 => f k
theorem stages_succ {Ak : Nat → Tr AV} {Bk : Nat → Tr AO} {nk : Nat → Nat} {D : DL} {m : Nat} {A : Tr AV} {B : Tr AO} {n : Nat} : stages (pre A Ak) (pre B Bk) (pre n nk) D (m + 1) = .nm A B n D :: stages Ak Bk nk D m := by
  unfold stages
  rw [List.range_succ_eq_map, List.map_cons, List.map_map]
  rfl
theorem nm_only {E : Fns} (hE : Sound P E) {o : Oper} {i : I} (hc : cOp P o = some i) (hk : kindOf i ≠ 4) {A : Tr AV} {B : Tr AO} {n : Nat} {D : DL} (h : i.run E Res.nm A B n D ≠ .bad) :
    ∃ v B' n', i.run E Res.nm A B n D = .nm (putD A o.dst v) B' n' D ∧ OpOK P o (fun a r => AgI r A a i) B n v B' n' := by
  have hg := goes_all hE hc (fun d x xs e => hk (by rw [e]; rfl))
  obtain ⟨v, B', n', e, hop⟩ := hg Res.nm A B n D h
  exact ⟨v, B', n', e, hop⟩
theorem runS_path {E : Fns} (hE : Sound P E) {ops : Array Oper} {fin : List Res → K} : ∀ (l : List Oper) (is : Is) (acc : List Res) (A : Tr AV) (B : Tr AO) (n : Nat) (D : DL), cOps P N ops l = some is → (∀ k ∈ is.kinds, k ≠ 4) → is.runS E fin (.nm A B n D :: acc) A B n D ≠ .bad →
    ∃ Ak Bk nk, Ak 0 = A ∧ Bk 0 = B ∧ nk 0 = n ∧
      (∀ k o, l[k]? = some o → ∃ q, is.nthK E k = some q ∧ StepP P E N ops D o (is.slots.getD k []) (is.kinds.getD k 0) q (Ak k) (Bk k) (nk k) (Ak (k + 1)) (Bk (k + 1)) (nk (k + 1))) ∧
      is.runS E fin (.nm A B n D :: acc) A B n D = fin ((stages Ak Bk nk D (l.length + 1)).reverse ++ acc) (Ak l.length) (Bk l.length) (nk l.length) D
  | [], is, acc, A, B, n, D, hc, hk, hb => by
    simp only [cOps] at hc; cases hc
    exact ⟨fun _ => A, fun _ => B, fun _ => n, rfl, rfl, rfl, fun k o h => by simp at h, rfl⟩
  | o :: l, is, acc, A, B, n, D, hc, hk, hb => by
    simp only [cOps] at hc
    split at hc
    · rename_i i is' hi his
      obtain ⟨hin, hc⟩ := bif_some hc
      -- what stands behind the first step
      have tail : ∀ (A1 : Tr AV) (B1 : Tr AO) (n1 : Nat) (is2 : Is) (q0 : K × Option Nat) (sl0 : List Nat) (kd0 : Nat), (∀ k, is2.nthK E (k + 1) = is'.nthK E k) → is2.nthK E 0 = some q0 → (∀ k, is2.slots.getD (k + 1) [] = is'.slots.getD k []) → is2.slots.getD 0 [] = sl0 → (∀ k, is2.kinds.getD (k + 1) 0 = is'.kinds.getD k 0) → is2.kinds.getD 0 0 = kd0 → (∀ k ∈ is'.kinds, k ≠ 4) →
          is'.runS E fin (.nm A1 B1 n1 D :: .nm A B n D :: acc) A1 B1 n1 D ≠ .bad → StepP P E N ops D o sl0 kd0 q0 A B n A1 B1 n1 →
          ∃ Ak Bk nk, Ak 0 = A ∧ Bk 0 = B ∧ nk 0 = n ∧
            (∀ k o', (o :: l)[k]? = some o' → ∃ q, is2.nthK E k = some q ∧ StepP P E N ops D o' (is2.slots.getD k []) (is2.kinds.getD k 0) q (Ak k) (Bk k) (nk k) (Ak (k + 1)) (Bk (k + 1)) (nk (k + 1))) ∧
            is'.runS E fin (.nm A1 B1 n1 D :: .nm A B n D :: acc) A1 B1 n1 D = fin ((stages Ak Bk nk D ((o :: l).length + 1)).reverse ++ acc) (Ak (o :: l).length) (Bk (o :: l).length) (nk (o :: l).length) D := by
        intro A1 B1 n1 is2 q0 sl0 kd0 e1 e2 e3 e4 e5 e6 hk' hb' hst
        obtain ⟨Ak, Bk, nk, h1, h2, h3, h4, h5⟩ := runS_path hE l is' (.nm A B n D :: acc) A1 B1 n1 D his hk' hb'
        refine ⟨pre A Ak, pre B Bk, pre n nk, rfl, rfl, rfl, ?_, ?_⟩
        · intro k o' ho
          cases k with
          | zero =>
            simp at ho; subst ho
            refine ⟨q0, e2, ?_⟩
            rw [e4, e6]
            show StepP P E N ops D o sl0 kd0 q0 A B n (Ak 0) (Bk 0) (nk 0)
            rw [h1, h2, h3]; exact hst
          | succ k =>
            simp at ho
            obtain ⟨q, g1, g2⟩ := h4 k o' ho
            refine ⟨q, (e1 k).trans g1, ?_⟩
            rw [e3, e5]; exact g2
        · rw [h5, List.length_cons, stages_succ]
          show fin _ (Ak l.length) (Bk l.length) (nk l.length) D = fin _ (Ak l.length) (Bk l.length) (nk l.length) D
          congr 1
          rw [List.reverse_cons, List.append_assoc]; rfl
      split at hc
      · rename_i hgd
        cases hc
        have hk0 : kindOf i ≠ 4 := hk _ (by simp [Is.kinds])
        have hk' : ∀ k ∈ is'.kinds, k ≠ 4 := fun k h => hk k (by simp [Is.kinds, h])
        rw [runS_cons, run_nm] at hb
        have hb1 := seqK_bad hb
        obtain ⟨v, B1, n1, e, _⟩ := nm_only hE hi hk0 hb1
        rw [e] at hb
        have h := tail (putD A o.dst v) B1 n1 (.cons i is') (i.run E Res.nm, slotOf i) i.slots (kindOf i) (fun _ => rfl) rfl (fun _ => rfl) rfl (fun _ => rfl) rfl hk' hb ⟨i, hi, hin, rfl, .inl ⟨hgd, rfl, rfl, e⟩⟩
        rw [runS_cons, run_nm, e]
        exact h
      · rename_i j want hgd
        split at hc
        · rename_i t ht
          cases hc
          have hk0 : kindOf i ≠ 4 := hk _ (by simp [Is.kinds])
          have hk' : ∀ k ∈ is'.kinds, k ≠ 4 := fun k h => hk k (by simp [Is.kinds, h])
          rw [runS_gcons] at hb ⊢
          unfold gstep at hb ⊢
          obtain ⟨v, hv, e1⟩ := orec hb
          rw [e1] at hb ⊢
          cases hw : isB want v with
          | true =>
            rw [hw] at hb
            have hb : i.run E (fun A B n D => is'.runS E fin (.nm A B n D :: .nm _ _ _ _ :: acc) A B n D) A B n D ≠ .bad := hb
            show ∃ Ak Bk nk, _ ∧ _ ∧ _ ∧ _ ∧ i.run E _ A B n D = _
            rw [run_nm] at hb ⊢
            have hb1 := seqK_bad hb
            obtain ⟨u, B1, n1, e, _⟩ := nm_only hE hi hk0 hb1
            rw [e] at hb ⊢
            exact tail (putD A o.dst u) B1 n1 (.gcons t want o.dst i is') (gstep E t want o.dst i Res.nm, o.dst) (t :: i.slots) (kindOf i) (fun _ => rfl) rfl (fun _ => rfl) rfl (fun _ => rfl) rfl hk' hb ⟨i, hi, hin, rfl, .inr ⟨j, want, t, v, hgd, ht, rfl, rfl, hv, .inl ⟨hw, e⟩⟩⟩
          | false =>
            rw [hw] at hb
            exact tail (putD A o.dst undefA) B n (.gcons t want o.dst i is') (gstep E t want o.dst i Res.nm, o.dst) (t :: i.slots) (kindOf i) (fun _ => rfl) rfl (fun _ => rfl) rfl (fun _ => rfl) rfl hk' hb ⟨i, hi, hin, rfl, .inr ⟨j, want, t, v, hgd, ht, rfl, rfl, hv, .inr ⟨hw, rfl, rfl, rfl⟩⟩⟩
        · cases hc
    · cases hc
end
end Go.Ev
end
