/- The evaluator: tables of calls. -/
import Derived.Test.YtibdcnmaodmghaaGreatDoorEvD
import Derived.Shelf.Abstract
section
namespace Go.Ev
open Go Go.RowKit
section
variable {P : Program} {N : Nat} {r : Rho} {A : Tr AV} {a : Act} {n : Nat}

/-- The frame holds what is known of these slots. -/
def Use (A : Tr AV) (sl : List Nat) (a : Act) (r : Rho) : Prop := ∀ t ∈ sl, AgT r A a t
theorem use_x {x : X} (h : Use A x.slots a r) : AgX r A a x := by
  cases x with
  | t n => exact h n (by simp [X.slots])
  | c v => trivial
theorem use_left {l m : List Nat} (h : Use A (l ++ m) a r) : Use A l a r := fun t ht => h t (List.mem_append_left m ht)
theorem use_right {l m : List Nat} (h : Use A (l ++ m) a r) : Use A m a r := fun t ht => h t (List.mem_append_right l ht)
theorem use_xs : ∀ {xs : Xs}, Use A xs.slots a r → AgXs r A a xs
  | .nil, _ => trivial
  | .cons _ _, h => ⟨use_x (use_left h), use_xs (use_right h)⟩
theorem use_i {i : I} (h : Use A i.slots a r) : AgI r A a i := by
  cases i with
  | pure d p xs => exact use_xs (xs := xs) h
  | skip d => trivial
  | box d x => exact use_x (x := x) h
  | bsl d s l z p xs => exact use_xs (xs := xs) h
  | ld d g s x => exact use_x (x := x) h
  | st d s x y => exact ⟨use_x (x := x) (use_left h), use_x (x := y) (use_right h)⟩
  | b2s d x => exact use_x (x := x) h
  | mkm d => trivial
  | mks d s z x y => exact ⟨use_x (x := x) (use_left h), use_x (x := y) (use_right h)⟩
  | lk d e z b x y => exact ⟨use_x (x := x) (use_left h), use_x (x := y) (use_right h)⟩
  | mu d e x y z => exact ⟨use_x (x := x) (use_left h), use_x (x := y) (use_left (use_right h)), use_x (x := z) (use_right (use_right h))⟩
  | app d s x y => exact ⟨use_x (x := x) (use_left h), use_x (x := y) (use_right h)⟩
  | appz d s z x y => exact ⟨use_x (x := x) (use_left h), use_x (x := y) (use_right h)⟩
  | mlen d x => exact use_x (x := x) h
  | call d x xs => exact ⟨use_x (x := x) (use_left h), use_xs (xs := xs) (use_right h)⟩
  | dfr d x xs => exact ⟨use_x (x := x) (use_left h), use_xs (xs := xs) (use_right h)⟩
theorem OpOK.mono {o : Oper} {u u' : Act → Rho → Prop} {B B' : Tr AO} {n' : Nat} {v : AV} (h : OpOK P o u B n v B' n') (hu : ∀ a r, u' a r → u a r) : OpOK P o u' B n v B' n' :=
  ⟨h.1, fun r w a hR ha => h.2 r w a hR (hu a r ha)⟩
theorem QOK.mono {o : Oper} {u u' : Act → Rho → Prop} {B : Tr AO} {v : AV} (h : QOK P o u B v) (hu : ∀ a r, u' a r → u a r) : QOK P o u' B v :=
  fun r w a hR ha => h r w a hR (hu a r ha)

/-- The run in order, of a region of our form. -/
structure Way (P : Program) (E : Fns) (N : Nat) (L : List Oper) (an ks : List Nat) (sl : List (List Nat)) (D : DL) (Ak : Nat → Tr AV) (Bk : Nat → Tr AO) (nk : Nat → Nat) : Prop where
  form : Form L an ks sl
  step : ∀ (k : Nat) (o : Oper), L[k]? = some o → ∃ q, StepP P E N L.toArray D o (sl.getD k []) (ks.getD k 0) q (Ak k) (Bk k) (nk k) (Ak (k + 1)) (Bk (k + 1)) (nk (k + 1)) ∧ ks.getD k 0 ≠ 4 ∧
    ∀ e, ks.getD k 0 = 1 → e < L.length → ks.getD e 0 = 3 → bit an k e = false → bit an e k = false → ∃ x, x = (if k < e then e + 1 else e) ∧ again q (.nm (Ak k) (Bk k) (nk k) D) (.nm (Ak x) (Bk x) (nk x) D) (.nm (Ak (k + 1)) (Bk (k + 1)) (nk (k + 1)) D) = true
  names : ∀ k c : Nat, k < L.length → ks.getD k 0 = 2 → c ≤ k → (c = 0 ∨ ks.getD (c - 1) 0 = 3) → (Bk c).get (nk k) = none ∧ nk k < 1000000
/-- What an operation of it did. -/
inductive Did (P : Program) (L : List Oper) (an ks : List Nat) (sl : List (List Nat)) (Ak : Nat → Tr AV) (Bk : Nat → Tr AO) (nk : Nat → Nat) (k : Nat) (o : Oper) : Prop
  | skip (hw : ∀ a r, Use (Ak k) (sl.getD k []) a r → Region.wanted o (yielded L.toArray a.tmps) = false) (hA : Ak (k + 1) = putD (Ak k) o.dst undefA) (hB : Bk (k + 1) = Bk k) (hn : nk (k + 1) = nk k)
  | calm (v : AV) (hk : ks.getD k 0 = 0) (hw : ∀ a r, Use (Ak k) (sl.getD k []) a r → Region.wanted o (yielded L.toArray a.tmps) = true) (hA : Ak (k + 1) = putD (Ak k) o.dst v) (hB : Bk (k + 1) = Bk k) (hn : nk (k + 1) = nk k) (hq : QOK P o (Use (Ak k) (sl.getD k [])) .nil v)
  | read (v : AV) (hk : ks.getD k 0 = 1) (hw : ∀ a r, Use (Ak k) (sl.getD k []) a r → Region.wanted o (yielded L.toArray a.tmps) = true) (hA : Ak (k + 1) = putD (Ak k) o.dst v) (hB : Bk (k + 1) = Bk k) (hn : nk (k + 1) = nk k) (hq : QOK P o (Use (Ak k) (sl.getD k [])) (Bk k) v)
      (hf : ∀ e, e < L.length → ks.getD e 0 = 3 → bit an k e = false → bit an e k = false → QOK P o (Use (Ak k) (sl.getD k [])) (Bk (if k < e then e + 1 else e)) v)
  | make (v : AV) (ob : AO) (hk : ks.getD k 0 = 2) (hw : ∀ a r, Use (Ak k) (sl.getD k []) a r → Region.wanted o (yielded L.toArray a.tmps) = true) (hA : Ak (k + 1) = putD (Ak k) o.dst v) (hB : Bk (k + 1) = (Bk k).set (nk k) ob) (hn : nk (k + 1) = nk k + 1)
      (hop : OpOK P o (Use (Ak k) (sl.getD k [])) .nil (nk k) v ((Tr.nil : Tr AO).set (nk k) ob) (nk k + 1))
  | act (v : AV) (hk : ks.getD k 0 = 3) (hw : ∀ a r, Use (Ak k) (sl.getD k []) a r → Region.wanted o (yielded L.toArray a.tmps) = true) (hA : Ak (k + 1) = putD (Ak k) o.dst v) (hop : OpOK P o (Use (Ak k) (sl.getD k [])) (Bk k) (nk k) v (Bk (k + 1)) (nk (k + 1)))
theorem kind1_goes {E : Fns} {o : Oper} {i : I} (hc : cOp P o = some i) (hk : kindOf i = 1) : Goes1 P E o i ∧ slotOf i = o.dst := by
  have hv := cOp_inv hc
  cases i <;> try cases hk
  case ld => exact ⟨goes_ld hc, hv.1⟩
  case b2s => exact ⟨goes_b2s hc, hv.1⟩
  case lk => exact ⟨goes_lk hc, hv.1⟩
  case mlen => exact ⟨goes_mlen hc, hv.1⟩
theorem putD_get {d : Nat} {o : Option Nat} {u v : AV} (ho : o = some d) (h : (putD A o v).get d = some u) : v = u := by
  subst ho
  rcases Tr.get_set (show (A.set d v).get d = some u from h) with ⟨_, h⟩ | ⟨h, _⟩
  · exact h
  · exact absurd rfl h
theorem did_run {E : Fns} (hE : Sound P E) {L : List Oper} {an ks : List Nat} {sl : List (List Nat)} {D : DL} {Ak : Nat → Tr AV} {Bk : Nat → Tr AO} {nk : Nat → Nat} {k : Nat} {o : Oper} {i : I} {q : K × Option Nat}
    (hc : cOp P o = some i) (hkd : ks.getD k 0 = kindOf i) (h4 : ks.getD k 0 ≠ 4) (hsl : ∀ a r, Use (Ak k) (sl.getD k []) a r → Use (Ak k) i.slots a r)
    (hw : ∀ a r, Use (Ak k) (sl.getD k []) a r → Region.wanted o (yielded L.toArray a.tmps) = true)
    (hq : ∀ B, q.1 (Ak k) B (nk k) D = i.run E Res.nm (Ak k) B (nk k) D) (hq2 : q.2 = slotOf i ∨ q.2 = o.dst)
    (hrun : i.run E Res.nm (Ak k) (Bk k) (nk k) D = .nm (Ak (k + 1)) (Bk (k + 1)) (nk (k + 1)) D)
    (hf : ∀ e, ks.getD k 0 = 1 → e < L.length → ks.getD e 0 = 3 → bit an k e = false → bit an e k = false → ∃ x, x = (if k < e then e + 1 else e) ∧ again q (.nm (Ak k) (Bk k) (nk k) D) (.nm (Ak x) (Bk x) (nk x) D) (.nm (Ak (k + 1)) (Bk (k + 1)) (nk (k + 1)) D) = true) :
    Did P L an ks sl Ak Bk nk k o := by
  have hb : i.run E Res.nm (Ak k) (Bk k) (nk k) D ≠ .bad := by rw [hrun]; intro h; cases h
  have hu : ∀ a r, Use (Ak k) (sl.getD k []) a r → AgI r (Ak k) a i := fun a r h => use_i (hsl a r h)
  have hlt : kindOf i < 4 := by
    have : kindOf i ≤ 4 := by cases i <;> simp [kindOf]
    omega
  by_cases h0 : kindOf i = 0
  · obtain ⟨v, hv⟩ := kind0_any h0 hb
    have hg : Goes1 P E o i := by
      cases i <;> try cases h0
      exact goes_pure hc
    have e1 := hv Res.nm .nil (nk k)
    have e2 := hv Res.nm (Bk k) (nk k)
    obtain ⟨v', g1, g2⟩ := hg Res.nm (Ak k) .nil (nk k) D (by rw [e1]; intro h; cases h)
    rw [e1] at g1
    rw [hrun] at e2
    injection g1 with g1
    injection e2 with e2 e3 e4
    exact .calm v' (hkd.trans h0) hw (e2.trans g1) e3 e4 (g2.mono hu)
  by_cases h1 : kindOf i = 1
  · obtain ⟨hg, hs⟩ := kind1_goes (E := E) hc h1
    obtain ⟨v, g1, g2⟩ := hg Res.nm (Ak k) (Bk k) (nk k) D hb
    rw [hrun] at g1
    injection g1 with g1 g3 g4
    refine .read v (hkd.trans h1) hw g1 g3 g4 (g2.mono hu) fun e he he3 hb1 hb2 => ?_
    obtain ⟨x, hx, hag⟩ := hf e (hkd.trans h1) he he3 hb1 hb2
    rw [← hx]
    simp only [again, hq] at hag
    split at hag
    · rename_i A2 _ _ _ d e5 e6
      have e7 : o.dst = some d := by
        rcases hq2 with h | h
        · rw [← hs, ← h, e6]
        · rw [← h, e6]
      obtain ⟨v', g5, g6⟩ := hg Res.nm (Ak k) (Bk x) (nk k) D (by rw [e5]; intro h; cases h)
      rw [e5] at g5
      injection g5 with g5
      have : v' = v := by
        unfold sameO at hag
        split at hag
        · rename_i x1 x2 f1 f2
          have f3 : x1 = x2 := of_decide_eq_true hag
          rw [g5] at f1
          rw [g1] at f2
          rw [putD_get e7 f1, putD_get e7 f2, f3]
        · cases hag
      subst this
      exact g6.mono hu
    · cases hag
  by_cases h2 : kindOf i = 2
  · obtain ⟨v, ob, hv⟩ := kind2_any h2 hb
    have e1 := hv Res.nm .nil
    have e2 := hv Res.nm (Bk k)
    have hk4 : kindOf i ≠ 4 := by omega
    obtain ⟨v', B', n', g1, g2⟩ := nm_only hE hc hk4 (A := Ak k) (B := .nil) (n := nk k) (D := D) (by rw [e1]; intro h; cases h)
    rw [e1] at g1
    rw [hrun] at e2
    injection g1 with g1 g3 g4
    injection e2 with e2 e3 e4
    subst g3; subst g4
    exact .make v' ob (hkd.trans h2) hw (e2.trans g1) e3 e4 (g2.mono hu)
  · have h3 : kindOf i = 3 := by omega
    obtain ⟨v, B', n', g1, g2⟩ := nm_only hE hc (by omega) hb
    rw [hrun] at g1
    injection g1 with g1 g3 g4
    subst g3; subst g4
    exact .act v (hkd.trans h3) hw g1 (g2.mono hu)
theorem Way.did {E : Fns} (hE : Sound P E) {L : List Oper} {an ks : List Nat} {sl : List (List Nat)} {D : DL} {Ak : Nat → Tr AV} {Bk : Nat → Tr AO} {nk : Nat → Nat} (h : Way P E N L an ks sl D Ak Bk nk) {k : Nat} {o : Oper} (ho : L[k]? = some o) :
    inside N o.dst = true ∧ Did P L an ks sl Ak Bk nk k o := by
  obtain ⟨q, ⟨i, hi, hin, hkd, hst⟩, h4, hf⟩ := h.step k o ho
  refine ⟨hin, ?_⟩
  rcases hst with ⟨hgd, hsl, hq, hrun⟩ | ⟨j, want, t, v, hgd, ht, hsl, hq, hv, ⟨hw, hrun⟩ | ⟨hw, hA, hB, hn⟩⟩
  · subst hq
    exact did_run hE hi hkd h4 (fun a r hu => by rw [hsl] at hu; exact hu) (fun a r _ => by simp [Region.wanted, hgd]) (fun B => rfl) (.inl rfl) hrun hf
  · subst hq
    refine did_run hE hi hkd h4 (fun a r hu => by rw [hsl] at hu; exact fun t' ht' => hu t' (List.mem_cons_of_mem _ ht')) (fun a r hu => ?_) (fun B => ?_) (.inr rfl) hrun hf
    · rw [hsl] at hu
      rw [wanted_of hgd ht (hu t (List.mem_cons_self ..) v hv).1]
      exact hw
    · show gstep E t want o.dst i Res.nm (Ak k) B (nk k) D = _
      unfold gstep
      rw [hv]
      show (@Bool.rec (fun _ => Res) (stSkip o.dst Res.nm (Ak k) B (nk k) D) (i.run E Res.nm (Ak k) B (nk k) D) (isB want v)) = _
      rw [hw]
  · refine .skip (fun a r hu => ?_) hA hB hn
    rw [hsl] at hu
    rw [wanted_of hgd ht (hu t (List.mem_cons_self ..) v hv).1]
    exact hw
end
end Go.Ev
end

section
namespace Go.Ev
open Go Go.RowKit
section
variable {P : Program} {E : Fns} {N : Nat} {L : List Oper} {an ks : List Nat} {sl : List (List Nat)} {D : DL} {Ak : Nat → Tr AV} {Bk : Nat → Tr AO} {nk : Nat → Nat} {ob : Nat → AO}

/-- Blocks that are made ahead of their time. -/
def Al (L : List Oper) (ks : List Nat) (nk : Nat → Nat) (k : Nat) : Prop := k < L.length ∧ ks.getD k 0 = 2 ∧ nk (k + 1) = nk k + 1
open Classical in
noncomputable def Xp (nk : Nat → Nat) (ob : Nat → AO) (S : Nat → Prop) : Hf := fun id => if h : ∃ k, S k ∧ nk k = id then some (ob h.choose) else none
def Sx (L : List Oper) (ks : List Nat) (nk : Nat → Nat) (c : Nat) (d : Nat → Bool) (k : Nat) : Prop := c ≤ k ∧ Al L ks nk k ∧ d k = true
theorem xp_some {S : Nat → Prop} {id : Nat} {o : AO} (h : Xp nk ob S id = some o) : ∃ k, S k ∧ nk k = id ∧ ob k = o := by
  unfold Xp at h
  split at h
  · rename_i hx
    injection h with h
    exact ⟨hx.choose, hx.choose_spec.1, hx.choose_spec.2, h⟩
  · cases h
theorem xp_at {S : Nat → Prop} {k : Nat} (hS : S k) (hu : ∀ j, S j → nk j = nk k → j = k) : Xp nk ob S (nk k) = some (ob k) := by
  have hx : ∃ j, S j ∧ nk j = nk k := ⟨k, hS, rfl⟩
  unfold Xp
  rw [dif_pos hx]
  rw [hu _ hx.choose_spec.1 hx.choose_spec.2]

theorem Way.le {hE : Sound P E} (h : Way P E N L an ks sl D Ak Bk nk) {k : Nat} (hk : k < L.length) : nk k ≤ nk (k + 1) := by
  cases (h.did hE (List.getElem?_eq_getElem hk)).2 with
  | skip hw hA hB hn => omega
  | calm v hk hw hA hB hn => omega
  | read v hk hw hA hB hn => omega
  | make v ob hk hw hA hB hn => omega
  | act v hk hw hA hop => exact hop.1
theorem Way.mono {hE : Sound P E} (h : Way P E N L an ks sl D Ak Bk nk) : ∀ (x y : Nat), x ≤ y → y ≤ L.length → nk x ≤ nk y
  | x, 0, hx, _ => by have : x = 0 := by omega
                      subst this; exact Nat.le_refl _
  | x, y + 1, hx, hy => by
    by_cases e : x = y + 1
    · subst e; exact Nat.le_refl _
    · exact Nat.le_trans (h.mono (hE := hE) x y (by omega) (by omega)) (h.le (hE := hE) (by omega))
theorem Way.name_inj {hE : Sound P E} (h : Way P E N L an ks sl D Ak Bk nk) {j k : Nat} (hj : Al L ks nk j) (hk : Al L ks nk k) (e : nk j = nk k) : j = k := by
  rcases Nat.lt_trichotomy j k with h1 | h1 | h1
  · have := h.mono (hE := hE) (j + 1) k h1 (Nat.le_of_lt hk.1)
    have := hj.2.2
    omega
  · exact h1
  · have := h.mono (hE := hE) (k + 1) j h1 (Nat.le_of_lt hj.1)
    have := hk.2.2
    omega
/-- The blocks that are made, by number. -/
def Obs (L : List Oper) (ks : List Nat) (Bk : Nat → Tr AO) (nk : Nat → Nat) (ob : Nat → AO) : Prop := ∀ k, Al L ks nk k → Bk (k + 1) = (Bk k).set (nk k) (ob k)
theorem mid {hE : Sound P E} (h : Way P E N L an ks sl D Ak Bk nk) (hob : Obs L ks Bk nk ob) {c : Nat} : ∀ (x : Nat), c ≤ x → x ≤ L.length → (∀ e, c ≤ e → e < x → ks.getD e 0 ≠ 3) → ∀ id o, (Bk x).get id = some o → (Bk c).get id = some o ∨ ∃ j, c ≤ j ∧ j < x ∧ Al L ks nk j ∧ nk j = id ∧ ob j = o
  | 0, hc, _, _, id, o, hg => by
    have : c = 0 := by omega
    subst this; exact .inl hg
  | x + 1, hc, hx, hn, id, o, hg => by
    by_cases e : c = x + 1
    · subst e; exact .inl hg
    · have ih := mid (hE := hE) h hob x (by omega) (by omega) (fun e h1 h2 => hn e h1 (by omega)) id o
      have fin : (Bk x).get id = some o → _ := fun hg => (ih hg).imp_right fun ⟨j, h1, h2, h3⟩ => (⟨j, h1, by omega, h3⟩ : ∃ j, c ≤ j ∧ j < x + 1 ∧ Al L ks nk j ∧ nk j = id ∧ ob j = o)
      cases (h.did hE (List.getElem?_eq_getElem (show x < L.length by omega))).2 with
      | skip hw hA hB hn' => rw [hB] at hg; exact fin hg
      | calm v hk hw hA hB hn' => rw [hB] at hg; exact fin hg
      | read v hk hw hA hB hn' => rw [hB] at hg; exact fin hg
      | make v ob' hk hw hA hB hn' =>
        have ha : Al L ks nk x := ⟨by omega, hk, hn'⟩
        rw [hob x ha] at hg
        rcases Tr.get_set hg with ⟨h1, h2⟩ | ⟨h1, h2⟩
        · exact .inr ⟨x, by omega, by omega, ha, h1.symm, h2⟩
        · exact fin h2
      | act v hk => exact absurd hk (hn x (by omega) (by omega))

/-- What holds while a region is under way: what is done is closed; what acts is done in its order. -/
structure Iv (P : Program) (N : Nat) (L : List Oper) (an ks : List Nat) (Ak : Nat → Tr AV) (Bk : Nat → Tr AO) (nk : Nat → Nat) (ob : Nat → AO) (r0 : Rho) (H0 : Hf) (n : Nat) (w0 : World) (a0 : Act) (d : Nat → Bool) (a : Act) (w : World) (r : Rho) (c : Nat) : Prop where
  cm : c ≤ L.length
  cz : c = 0 ∨ ks.getD (c - 1) 0 = 3
  closed : ∀ i j, i < L.length → j < L.length → d i = true → bit an i j = true → d j = true
  eff : ∀ e, e < L.length → ks.getD e 0 = 3 → (d e = true ↔ e < c)
  rel : Rel P r (ovl (Bk c).get (Xp nk ob (Sx L ks nk c d))) w
  stp : Stp r0 H0 n w0 r (ovl (Bk c).get (Xp nk ob (Sx L ks nk c d))) (nk L.length) w
  dom : ∀ id, (r id).isSome = true → (r0 id).isSome = true ∨ ∃ k, k < L.length ∧ d k = true ∧ nk k ≤ id ∧ id < nk (k + 1)
  vi : ∀ (j : Nat) (o : Oper) (t : Nat), L[j]? = some o → o.dst = some t → d j = true → ∀ u, (Ak (j + 1)).get t = some u → a.eval (.tmp t) = conc r u ∧ ok r u
  vn : ∀ t : Nat, (∀ (j : Nat) (o : Oper), L[j]? = some o → o.dst = some t → d j = false) → a.eval (.tmp t) = a0.eval (.tmp t)
  sz : N ≤ a.tmps.size
  df : a.defers = a0.defers
variable {r0 : Rho} {H0 : Hf} {n : Nat} {w0 : World} {a0 : Act} {d : Nat → Bool} {a : Act} {w w' : World} {r r' : Rho} {c c' : Nat}

/-- Ahead of what acts next, all is known. -/
theorem Iv.sub {hE : Sound P E} (h : Way P E N L an ks sl D Ak Bk nk) (hob : Obs L ks Bk nk ob) (hI : Iv P N L an ks Ak Bk nk ob r0 H0 n w0 a0 d a w r c) (hF : Fresh r0 (nk 0) (nk L.length)) {x : Nat} (hcx : c ≤ x) (hx : x ≤ L.length) (hn : ∀ e, c ≤ e → e < x → ks.getD e 0 ≠ 3) :
    Sub r (Bk x).get (ovl (Bk c).get (Xp nk ob (Sx L ks nk c d))) := by
  intro id o p hg hr
  rcases mid (hE := hE) h hob x hcx hx hn id o hg with h1 | ⟨j, h1, h2, h3, h4, h5⟩
  · cases e : Xp nk ob (Sx L ks nk c d) id with
    | none => rw [ovl_h e]; exact h1
    | some u =>
      obtain ⟨k, ⟨g1, g2, g3⟩, g4, g5⟩ := xp_some e
      have := (h.names k c g2.1 g2.2.1 g1 hI.cz).1
      rw [g4, h1] at this; cases this
  · subst h4; subst h5
    have hd : d j = true := by
      rcases hI.dom (nk j) (by rw [hr]; rfl) with g1 | ⟨k, g1, g2, g3, g4⟩
      · have := hF (nk j) (h.mono (hE := hE) 0 j (Nat.zero_le _) (by omega)) (by
          have := h.mono (hE := hE) (j + 1) L.length (by omega) (Nat.le_refl _)
          have := h3.2.2
          omega)
        rw [this] at g1; cases g1
      · have : k = j := by
          rcases Nat.lt_trichotomy k j with h6 | h6 | h6
          · have := h.mono (hE := hE) (k + 1) j h6 (by omega); omega
          · exact h6
          · have := h.mono (hE := hE) (j + 1) k h6 (by omega)
            have := h3.2.2
            omega
        rw [← this]; exact g2
    exact ovl_x (xp_at (S := Sx L ks nk c d) ⟨h1, h3, hd⟩ fun k hk e => h.name_inj (hE := hE) hk.2.1 h3 e)

/-- The state behind one more operation. -/
theorem Iv.next {hE : Sound P E} (h : Way P E N L an ks sl D Ak Bk nk) (hI : Iv P N L an ks Ak Bk nk ob r0 H0 n w0 a0 d a w r c) {k : Nat} {o : Oper} (ho : L[k]? = some o) (hd : d k = false) (hr : ∀ j, j < L.length → bit an k j = true → d j = true) (hn0 : nk 0 = n)
    {v : AV} (hA : Ak (k + 1) = putD (Ak k) o.dst v) (hv : ok r' v) (hin : inside N o.dst = true)
    (cm : c' ≤ L.length) (cz : c' = 0 ∨ ks.getD (c' - 1) 0 = 3) (eff : ∀ e, e < L.length → ks.getD e 0 = 3 → (updB d k e = true ↔ e < c'))
    (rel : Rel P r' (ovl (Bk c').get (Xp nk ob (Sx L ks nk c' (updB d k)))) w')
    (stp : Stp r (ovl (Bk c).get (Xp nk ob (Sx L ks nk c d))) (nk k) w r' (ovl (Bk c').get (Xp nk ob (Sx L ks nk c' (updB d k)))) (nk (k + 1)) w') :
    Iv P N L an ks Ak Bk nk ob r0 H0 n w0 a0 (updB d k) (a.put o.dst (conc r' v)) w' r' c' := by
  have hk := len_of ho
  refine ⟨cm, cz, ?_, eff, rel, ?_, ?_, ?_, ?_, ?_, ?_⟩
  · intro i j hi hj h1 h2
    unfold updB at h1 ⊢
    by_cases e2 : j = k
    · rw [if_pos e2]
    · rw [if_neg e2]
      by_cases e1 : i = k
      · subst e1; exact hr j hj h2
      · rw [if_neg e1] at h1; exact hI.closed i j hi hj h1 h2
  · exact hI.stp.join stp (by rw [← hn0]; exact h.mono (hE := hE) 0 k (Nat.zero_le _) (by omega)) (h.mono (hE := hE) (k + 1) L.length (by omega) (Nat.le_refl _))
  · intro id hid
    rcases stp.dom id hid with h1 | h1
    · rcases hI.dom id h1 with h2 | ⟨j, h2, h3, h4⟩
      · exact .inl h2
      · exact .inr ⟨j, h2, by unfold updB; split <;> first | rfl | exact h3, h4⟩
    · exact .inr ⟨k, hk, by simp [updB], h1⟩
  · intro j o' t hj ht hdj u hu
    by_cases e : j = k
    · subst e
      rw [ho] at hj; cases hj
      rw [hA] at hu
      have : v = u := putD_get ht hu
      subst this
      rw [ht] at hin ⊢
      have hlt : t < N := by
        have hin : Nat.blt t N = true := hin
        simp [Nat.blt] at hin; omega
      exact ⟨eval_put (Nat.lt_of_lt_of_le hlt hI.sz), hv⟩
    · unfold updB at hdj
      rw [if_neg e] at hdj
      obtain ⟨h1, h2⟩ := hI.vi j o' t hj ht hdj u hu
      refine ⟨?_, ok_ext stp.ext h2⟩
      rw [conc_ext stp.ext h2, ← h1]
      cases hdst : o.dst with
      | none => rfl
      | some t' => exact eval_put' (fun e2 => e (h.form.uniq j k o' o t hj ho ht (by rw [hdst, e2])))
  · intro t ht
    rw [← hI.vn t fun j o' h1 h2 => by
      have := ht j o' h1 h2
      unfold updB at this
      split at this
      · cases this
      · exact this]
    cases hdst : o.dst with
    | none => rfl
    | some t' =>
      refine eval_put' fun e => ?_
      have := ht k o ho (by rw [hdst, e])
      simp [updB] at this
  · rw [put_size]; exact hI.sz
  · rw [put_defers]; exact hI.df
end
end Go.Ev
end

section
namespace Go.Ev
open Go Go.RowKit
section
variable {P : Program} {E : Fns} {N : Nat} {L : List Oper} {an ks : List Nat} {sl : List (List Nat)} {D : DL} {Ak : Nat → Tr AV} {Bk : Nat → Tr AO} {nk : Nat → Nat} {ob : Nat → AO}
  {r0 : Rho} {H0 : Hf} {n : Nat} {w0 : World} {a0 : Act} {d : Nat → Bool} {a : Act} {w w' : World} {r r' : Rho} {c c' : Nat}

theorem xp_congr {S S' : Nat → Prop} (h : ∀ k, S k ↔ S' k) : Xp nk ob S = Xp nk ob S' := by
  have : S = S' := funext fun k => propext (h k)
  rw [this]
/-- Values ahead of an operation. -/
theorem ak_back {hE : Sound P E} (h : Way P E N L an ks sl D Ak Bk nk) {t : Nat} {u : AV} (x : Nat) : ∀ (y : Nat), x ≤ y → y ≤ L.length → (∀ (j : Nat) (o : Oper), x ≤ j → j < y → L[j]? = some o → o.dst ≠ some t) → (Ak y).get t = some u → (Ak x).get t = some u
  | 0, hx, _, _, hg => by have : x = 0 := by omega
                          subst this; exact hg
  | y + 1, hx, hy, hn, hg => by
    by_cases e : x = y + 1
    · subst e; exact hg
    · have ho := List.getElem?_eq_getElem (show y < L.length by omega)
      refine ak_back (hE := hE) h x y (by omega) (by omega) (fun j o h1 h2 => hn j o h1 (by omega)) ?_
      have key : ∀ v, Ak (y + 1) = putD (Ak y) (L[y]).dst v → (Ak y).get t = some u := by
        intro v hA
        rw [hA] at hg
        have hne := hn y _ (by omega) (by omega) ho
        cases hd : (L[y]).dst with
        | none => rw [hd] at hg; exact hg
        | some t' =>
          rw [hd] at hg hne
          rcases Tr.get_set (show ((Ak y).set t' v).get t = some u from hg) with ⟨h1, _⟩ | ⟨_, h2⟩
          · exact absurd (by rw [h1]) hne
          · exact h2
      cases (h.did hE ho).2 with
      | skip hw hA => exact key _ hA
      | calm v hk hw hA => exact key _ hA
      | read v hk hw hA => exact key _ hA
      | make v ob hk hw hA => exact key _ hA
      | act v hk hw hA => exact key _ hA
theorem Iv.use {hE : Sound P E} (h : Way P E N L an ks sl D Ak Bk nk) (hI : Iv P N L an ks Ak Bk nk ob r0 H0 n w0 a0 d a w r c) (ha : ∀ t, AgT r0 (Ak 0) a0 t) {k : Nat} (hk : k < L.length) (hd : d k = false) (hr : ∀ j, j < L.length → bit an k j = true → d j = true) : Use (Ak k) (sl.getD k []) a r := by
  intro t ht u hu
  by_cases hw : ∃ j o, L[j]? = some o ∧ o.dst = some t ∧ d j = true
  · obtain ⟨j, o, hj, hdj, hdone⟩ := hw
    have hjl := len_of hj
    have hjk : j < k := by
      rcases h.form.reads k j o t hk hj ht hdj with h1 | h1 | h1
      · subst h1; rw [hd] at hdone; cases hdone
      · exact h.form.lt k j hk hjl h1
      · have := hI.closed j k hjl hk hdone h1
        rw [hd] at this; cases this
    refine hI.vi j o t hj hdj hdone u (ak_back (hE := hE) h (j + 1) k hjk (Nat.le_of_lt hk) (fun j' o' h1 h2 h3 h4 => ?_) hu)
    have := h.form.uniq j' j o' o t h3 hj h4 hdj
    omega
  · have hnd : ∀ (j : Nat) (o : Oper), L[j]? = some o → o.dst = some t → d j = false := by
      intro j o h1 h2
      cases e : d j with
      | false => rfl
      | true => exact absurd ⟨j, o, h1, h2, e⟩ hw
    have hu0 := ak_back (hE := hE) h 0 k (Nat.zero_le _) (Nat.le_of_lt hk) (fun j o _ h2 h3 h4 => by
      have h5 := hnd j o h3 h4
      rcases h.form.reads k j o t hk h3 ht h4 with h1 | h1 | h1
      · omega
      · have := hr j (len_of h3) h1
        rw [h5] at this; cases this
      · have := h.form.lt j k (len_of h3) hk h1
        omega) hu
    obtain ⟨h1, h2⟩ := ha t u hu0
    rw [hI.vn t hnd]
    exact ⟨by rw [conc_ext hI.stp.ext h2]; exact h1, ok_ext hI.stp.ext h2⟩
theorem Iv.ahead (h : Way P E N L an ks sl D Ak Bk nk) (hI : Iv P N L an ks Ak Bk nk ob r0 H0 n w0 a0 d a w r c) {k : Nat} (hk : k < L.length) (hd : d k = false) (h23 : ks.getD k 0 = 2 ∨ ks.getD k 0 = 3) : c ≤ k := by
  rcases Nat.lt_or_ge k c with h1 | h1
  · rcases hI.cz with h2 | h2
    · omega
    · have hcm := hI.cm
      have hdc := (hI.eff (c - 1) (by omega) h2).2 (by omega)
      by_cases e : k = c - 1
      · rw [e, hdc] at hd; cases hd
      · have := hI.closed (c - 1) k (by omega) hk hdc (h.form.acts k (c - 1) (by omega) (by omega) h2 h23.symm)
        rw [hd] at this; cases this
  · exact h1
/-- Nothing that acts lies between. -/
theorem Iv.calm_to (h : Way P E N L an ks sl D Ak Bk nk) (hI : Iv P N L an ks Ak Bk nk ob r0 H0 n w0 a0 d a w r c) {k : Nat} (hk : k < L.length) (h3 : ks.getD k 0 = 3) (hr : ∀ j, j < L.length → bit an k j = true → d j = true) : ∀ e, c ≤ e → e < k → ks.getD e 0 ≠ 3 := by
  intro e h1 h2 h4
  have := hr e (by omega) (h.form.acts e k h2 hk h3 (.inl h4))
  have := (hI.eff e (by omega) h4).1 this
  omega

section
variable {hE : Sound P E} (h : Way P E N L an ks sl D Ak Bk nk) (hob : Obs L ks Bk nk ob) (hI : Iv P N L an ks Ak Bk nk ob r0 H0 n w0 a0 d a w r c) (hF : Fresh r0 (nk 0) (nk L.length))
  {k : Nat} {o : Oper} (ho : L[k]? = some o) (hd : d k = false) (hr : ∀ j, j < L.length → bit an k j = true → d j = true) (hn0 : nk 0 = n) {v : AV} (hA : Ak (k + 1) = putD (Ak k) o.dst v) (hin : inside N o.dst = true)
include hE h hI ho hd hr hn0 hA hin
/-- Nothing turns. -/
theorem next_quiet (hv : ok r v) (h3 : ks.getD k 0 ≠ 3) (hal : ¬ Al L ks nk k) : Iv P N L an ks Ak Bk nk ob r0 H0 n w0 a0 (updB d k) (a.put o.dst (conc r v)) w r c := by
  have hk := len_of ho
  have hx : Xp nk ob (Sx L ks nk c (updB d k)) = Xp nk ob (Sx L ks nk c d) := xp_congr fun j => by
    unfold Sx updB
    by_cases e : j = k
    · subst e; simp [hal]
    · simp [e]
  refine hI.next (hE := hE) h ho hd hr hn0 hA hv hin hI.cm hI.cz ?_ ?_ ?_
  · intro e he h1
    have : e ≠ k := fun e2 => h3 (by rw [← e2]; exact h1)
    unfold updB
    rw [if_neg this]
    exact hI.eff e he h1
  · rw [hx]; exact hI.rel
  · rw [hx]
    have := Stp.refl r (ovl (Bk c).get (Xp nk ob (Sx L ks nk c d))) (nk k) w
    exact ⟨this.os, this.tape, this.output, this.size, this.ext, fun id h => .inl h, this.keep, this.new, h.le (hE := hE) hk⟩
/-- A block is made. -/
theorem next_make (hal : Al L ks nk k) (hv : ok r' v) (hR' : Rel P r' ((Tr.nil : Tr AO).set (nk k) (ob k)).get w') (hS : Stp r (Tr.nil : Tr AO).get (nk k) w r' ((Tr.nil : Tr AO).set (nk k) (ob k)).get (nk k + 1) w') :
    Iv P N L an ks Ak Bk nk ob r0 H0 n w0 a0 (updB d k) (a.put o.dst (conc r' v)) w' r' c := by
  have hk := len_of ho
  have hck : c ≤ k := hI.ahead h hk hd (.inl hal.2.1)
  obtain ⟨hnm, hsm⟩ := h.names k c hk hal.2.1 hck hI.cz
  have hxn : Xp nk ob (Sx L ks nk c d) (nk k) = none := by
    cases e : Xp nk ob (Sx L ks nk c d) (nk k) with
    | none => rfl
    | some u =>
      obtain ⟨j, ⟨_, g2, g3⟩, g4, _⟩ := xp_some e
      rw [h.name_inj (hE := hE) g2 hal g4, hd] at g3; cases g3
  have hnone : ovl (Bk c).get (Xp nk ob (Sx L ks nk c d)) (nk k) = none := by rw [ovl_h hxn]; exact hnm
  obtain ⟨g1, g2⟩ := frame (H := (Tr.nil : Tr AO).get) (X := ovl (Bk c).get (Xp nk ob (Sx L ks nk c d))) (hI.rel.sub2 (fun id o' p h1 h2 => by
      rcases ovl_some h1 with h3 | ⟨_, h3⟩
      · exact h3
      · cases h3)) hS hR' (fun _ _ _ => rfl) (fun id o' p h1 h2 => by
      cases e : r id with
      | some q => rw [hS.ext id q e] at h2; rw [← h2]
      | none =>
        rcases hS.dom id (by rw [h2]; rfl) with h3 | h3
        · rw [e] at h3; cases h3
        · have : id = nk k := by omega
          rw [this, hnone] at h1; cases h1)
  have hsub : Sub r' (ovl (Bk c).get (Xp nk ob (Sx L ks nk c (updB d k)))) (ovl ((Tr.nil : Tr AO).set (nk k) (ob k)).get (ovl (Bk c).get (Xp nk ob (Sx L ks nk c d)))) := by
    intro id o' p h1 h2
    have old : ∀ id o', ovl (Bk c).get (Xp nk ob (Sx L ks nk c d)) id = some o' → ovl ((Tr.nil : Tr AO).set (nk k) (ob k)).get (ovl (Bk c).get (Xp nk ob (Sx L ks nk c d))) id = some o' := fun id o' h => ovl_x h
    rcases ovl_some h1 with h3 | ⟨h3, h4⟩
    · obtain ⟨j, ⟨f1, f2, f3⟩, f4, f5⟩ := xp_some h3
      by_cases e : j = k
      · subst e; subst f4; subst f5
        rw [ovl_h hnone]
        exact Tr.nil_set hsm
      · unfold updB at f3
        rw [if_neg e] at f3
        subst f4; subst f5
        exact old _ _ (ovl_x (xp_at (S := Sx L ks nk c d) ⟨f1, f2, f3⟩ fun i hi e => h.name_inj (hE := hE) hi.2.1 f2 e))
    · refine old _ _ ?_
      cases e : Xp nk ob (Sx L ks nk c d) id with
      | none => rw [ovl_h e]; exact h4
      | some u =>
        obtain ⟨j, ⟨f1, f2, f3⟩, f4, f5⟩ := xp_some e
        have := xp_at (nk := nk) (ob := ob) (S := Sx L ks nk c (updB d k)) (k := j) ⟨f1, f2, by unfold updB; split <;> first | rfl | exact f3⟩ fun i hi e => h.name_inj (hE := hE) hi.2.1 f2 e
        rw [f4, h3] at this; cases this
  refine hI.next (hE := hE) h ho hd hr hn0 hA hv hin hI.cm hI.cz ?_ (g1.sub2 hsub) ?_
  · intro e he h1
    have : e ≠ k := fun e2 => by have := hal.2.1; rw [e2, this] at h1; cases h1
    unfold updB
    rw [if_neg this]
    exact hI.eff e he h1
  · rw [hal.2.2]
    refine (g2.wide2 fun id o' p h1 h2 => ?_).less hsub
    rcases ovl_some h1 with h3 | ⟨_, h3⟩
    · exact h3
    · cases h3
include hob hF
/-- The next that acts. -/
theorem next_act (h3 : ks.getD k 0 = 3) (hv : ok r' v) (hR' : Rel P r' (Bk (k + 1)).get w') (hS : Stp r (Bk k).get (nk k) w r' (Bk (k + 1)).get (nk (k + 1)) w') :
    Iv P N L an ks Ak Bk nk ob r0 H0 n w0 a0 (updB d k) (a.put o.dst (conc r' v)) w' r' (k + 1) := by
  have hk := len_of ho
  have hck : c ≤ k := hI.ahead h hk hd (.inr h3)
  have hcalm := hI.calm_to h hk h3 hr
  have hsub := hI.sub (hE := hE) h hob hF hck (Nat.le_of_lt hk) hcalm
  have hxx : ∀ id u, Xp nk ob (Sx L ks nk (k + 1) d) id = some u → Xp nk ob (Sx L ks nk c d) id = some u := by
    intro id u hx
    obtain ⟨j, ⟨g1, g2, g3⟩, g4, g5⟩ := xp_some hx
    subst g4; subst g5
    exact xp_at (S := Sx L ks nk c d) ⟨by omega, g2, g3⟩ fun i hi e => h.name_inj (hE := hE) hi.2.1 g2 e
  have hsub2 : Sub r (ovl (Bk k).get (Xp nk ob (Sx L ks nk (k + 1) d))) (ovl (Bk c).get (Xp nk ob (Sx L ks nk c d))) := by
    intro id o' p h1 h2
    rcases ovl_some h1 with h4 | ⟨_, h4⟩
    · exact ovl_x (hxx _ _ h4)
    · exact hsub id o' p h4 h2
  have hx' : Xp nk ob (Sx L ks nk (k + 1) (updB d k)) = Xp nk ob (Sx L ks nk (k + 1) d) := xp_congr fun j => by
    unfold Sx updB
    by_cases e : j = k
    · subst e; simp; intro h; omega
    · simp [e]
  obtain ⟨g1, g2⟩ := frame (H := (Bk k).get) (X := Xp nk ob (Sx L ks nk (k + 1) d)) (hI.rel.sub2 hsub2) hS hR' (fun id u hx => by
      obtain ⟨j, ⟨f1, f2, f3⟩, f4, f5⟩ := xp_some hx
      subst f4
      cases e : (Bk k).get (nk j) with
      | none => rfl
      | some o' =>
        rcases mid (hE := hE) h hob k hck (Nat.le_of_lt hk) hcalm (nk j) o' e with h4 | ⟨i, h4, h5, h6, h7, h8⟩
        · rw [(h.names j c f2.1 f2.2.1 (by omega) hI.cz).1] at h4; cases h4
        · have := h.name_inj (hE := hE) h6 f2 h7
          omega) (fun id o' p h1 h2 => by
      obtain ⟨j, ⟨f1, f2, f3⟩, f4, f5⟩ := xp_some h1
      cases e : r id with
      | some q => rw [hS.ext id q e] at h2; rw [← h2]
      | none =>
        rcases hS.dom id (by rw [h2]; rfl) with h4 | h4
        · rw [e] at h4; cases h4
        · have := h.mono (hE := hE) (k + 1) j f1 (Nat.le_of_lt f2.1)
          omega)
  refine hI.next (hE := hE) h ho hd hr hn0 hA hv hin hk (.inr h3) ?_ ?_ ?_
  · intro e he h1
    unfold updB
    by_cases e1 : e = k
    · subst e1; simp
    · rw [if_neg e1]
      constructor
      · intro h4
        rcases Nat.lt_or_ge k e with h5 | h5
        · have := hI.closed e k he hk h4 (h.form.acts k e h5 he h1 (.inl h3))
          rw [hd] at this; cases this
        · omega
      · intro h4
        exact hr e he (h.form.acts e k (by omega) hk h3 (.inl h1))
  · rw [hx']; exact g1
  · rw [hx']; exact g2.wide2 hsub2
end
end
end Go.Ev
end

section
namespace Go.Ev
open Go Go.RowKit
section
variable {P : Program} {E : Fns} {N : Nat}
theorem stage_at {Ak : Nat → Tr AV} {Bk : Nat → Tr AO} {nk : Nat → Nat} {D : DL} {m k : Nat} (h : k < m) : (stages Ak Bk nk D m)[k]? = some (.nm (Ak k) (Bk k) (nk k) D) := by
  simp [stages, h]
theorem Rel.world_drew {r : Rho} {H : Hf} {w : World} (h : Rel P r H w) : Rel P r H w.drew := h.drew
theorem drawn_sound (hm : P.follows .mixedOrders = true) (hE : Sound P E) : DrawnS P E := by
  intro N id ops is fl hc hdr A B n D hb
  obtain ⟨L⟩ := ops
  dsimp only at hc hdr
  obtain ⟨hform, hfl⟩ := bif_some hdr
  have hF := form_of hform
  injection hfl with hfl; subst hfl
  unfold dopsK at hb ⊢
  obtain ⟨Ak, Bk, nk, e0, e1, e2, hstep, hrun⟩ := runS_path hE (ops := ⟨L⟩) L is [] A B n D hc hF.kinds hb
  rw [hrun] at hb ⊢
  unfold dopsFin at hb ⊢
  obtain ⟨hchk, e3⟩ := brec hb
  rw [e3]
  simp only [List.append_nil, List.reverse_reverse, Bool.and_eq_true] at hchk
  obtain ⟨hfl, hnm⟩ := hchk
  have hway : Way P E N L (anc L) is.kinds is.slots D Ak Bk nk := by
    refine ⟨hF, ?_, ?_⟩
    · intro k o ho
      obtain ⟨q, h1, h2⟩ := hstep k o ho
      have hk := len_of ho
      have h4 : is.kinds.getD k 0 ≠ 4 := by
        cases e : is.kinds[k]? with
        | none => simp [e]
        | some x =>
          have := hF.kinds x (List.mem_of_getElem? e)
          simpa [e] using this
      refine ⟨q, h2, h4, fun e hk1 he he3 hb1 hb2 => ⟨_, rfl, ?_⟩⟩
      have hmem : (k, e) ∈ floats (anc L) is.kinds L.length := by
        unfold floats
        rw [List.mem_flatMap]
        refine ⟨k, List.mem_range.2 hk, ?_⟩
        rw [hk1]
        simp only [beq_self_eq_true, if_true, List.mem_filterMap, List.mem_range]
        exact ⟨e, he, by rw [he3, hb1, hb2]; simp⟩
      have := List.all_eq_true.1 hfl _ hmem
      unfold chk at this
      have hx : (bif Nat.blt k e then e + 1 else e) = if k < e then e + 1 else e := by
        by_cases h5 : k < e
        · have : Nat.blt k e = true := by simp [Nat.blt]; omega
          rw [this, if_pos h5]; rfl
        · have : Nat.blt k e = false := by rw [Bool.eq_false_iff, ne_eq, Nat.blt_eq]; exact h5
          rw [this, if_neg h5]; rfl
      dsimp only at this
      rw [hx, h1, stage_at (k := k) (m := L.length + 1) (by omega), stage_at (k := if k < e then e + 1 else e) (m := L.length + 1) (by split <;> omega), stage_at (k := k + 1) (m := L.length + 1) (by omega)] at this
      exact this
    · intro k c hk hk2 hck hcz
      have hmem : (k, c) ∈ makes is.kinds L.length := by
        unfold makes
        rw [List.mem_flatMap]
        refine ⟨k, List.mem_range.2 hk, ?_⟩
        rw [hk2]
        simp only [beq_self_eq_true, if_true, List.mem_filterMap, List.mem_range]
        refine ⟨c, by omega, ?_⟩
        rcases hcz with h | h
        · rw [h]; simp
        · rw [h]; simp
      have := List.all_eq_true.1 hnm _ hmem
      unfold chkN at this
      dsimp only at this
      rw [stage_at (k := k) (m := L.length + 1) (by omega), stage_at (k := c) (m := L.length + 1) (by omega)] at this
      simp only [Bool.and_eq_true, Option.isNone_iff_eq_none] at this
      refine ⟨this.1, ?_⟩
      have := this.2
      simp [Nat.blt] at this
      omega
  have hobx : ∃ ob : Nat → AO, Obs L is.kinds Bk nk ob ∧ ∀ (k : Nat) (o : Oper), L[k]? = some o → Al L is.kinds nk k → ∃ v, (∀ a r, Use (Ak k) (is.slots.getD k []) a r → Region.wanted o (yielded L.toArray a.tmps) = true) ∧ Ak (k + 1) = putD (Ak k) o.dst v ∧ OpOK P o (Use (Ak k) (is.slots.getD k [])) .nil (nk k) v ((Tr.nil : Tr AO).set (nk k) (ob k)) (nk k + 1) := by
    have : ∀ k, ∃ ob, ∀ o, L[k]? = some o → Al L is.kinds nk k → Bk (k + 1) = (Bk k).set (nk k) ob ∧ ∃ v, (∀ a r, Use (Ak k) (is.slots.getD k []) a r → Region.wanted o (yielded L.toArray a.tmps) = true) ∧ Ak (k + 1) = putD (Ak k) o.dst v ∧ OpOK P o (Use (Ak k) (is.slots.getD k [])) .nil (nk k) v ((Tr.nil : Tr AO).set (nk k) ob) (nk k + 1) := by
      intro k
      by_cases hk : k < L.length
      · have ho := List.getElem?_eq_getElem hk
        cases (hway.did hE ho).2 with
        | make v ob hk2 hw hA hB hn hop => exact ⟨ob, fun o ho' _ => by rw [ho] at ho'; cases ho'; exact ⟨hB, v, hw, hA, hop⟩⟩
        | skip hw hA hB hn => exact ⟨default, fun o _ hal => by have := hal.2.2; omega⟩
        | calm v hk2 => exact ⟨default, fun o _ hal => by have := hal.2.1; omega⟩
        | read v hk2 => exact ⟨default, fun o _ hal => by have := hal.2.1; omega⟩
        | act v hk2 => exact ⟨default, fun o _ hal => by have := hal.2.1; omega⟩
      · exact ⟨default, fun o _ hal => absurd hal.1 hk⟩
    obtain ⟨ob, hob⟩ := Classical.axiomOfChoice this
    exact ⟨ob, fun k hal => (hob k _ (List.getElem?_eq_getElem hal.1) hal).1, fun k o ho hal => (hob k o ho hal).2⟩
  obtain ⟨ob, hob, hmk⟩ := hobx
  have hle : n ≤ nk L.length := by
    have := hway.mono (hE := hE) 0 L.length (Nat.zero_le _) (Nat.le_refl _)
    rw [e2] at this; exact this
  refine ⟨hle, fun Q r w a hR ha hD hFr hP => ?_⟩
  have hFr : Fresh r (nk 0) (nk L.length) := by rw [e2]; exact hFr
  refine wp_region_inv hm hF.forward (fun d a' w' => ∃ r' c, Iv P N L (anc L) is.kinds Ak Bk nk ob r B.get n w a d a' w' r' c) ?_ ?_ ?_
  · have hx : Xp nk ob (Sx L is.kinds nk 0 fun _ => false) = fun _ => none := by
      funext id
      cases e : Xp nk ob (Sx L is.kinds nk 0 fun _ => false) id with
      | none => rfl
      | some u =>
        obtain ⟨k, ⟨_, _, h⟩, _⟩ := xp_some e
        cases h
    have ho : ovl (Bk 0).get (Xp nk ob (Sx L is.kinds nk 0 fun _ => false)) = B.get := by
      rw [hx, e1]; rfl
    refine ⟨r, 0, ⟨Nat.zero_le _, .inl rfl, fun _ _ _ _ h => (by cases h), fun e _ _ => by simp, ?_, ?_, fun id h => .inl h, fun j o t _ _ h => (by cases h), fun t _ => rfl, ha.2, rfl⟩⟩
    · rw [ho]; exact hR.drew
    · rw [ho]
      have := (Stp.refl r B.get n w).drew
      exact ⟨this.os, this.tape, this.output, this.size, this.ext, fun id h => .inl h, this.keep, this.new, hle⟩
  · rintro d a' w' k o ho hd hdep ⟨r', c, hI⟩
    have hk := len_of ho
    have hr : ∀ j, j < L.length → bit (anc L) k j = true → d j = true := by
      intro j hj hb1
      obtain ⟨e, he, hbi, h1⟩ := hF.back k o j ho hj hb1
      have h2 := hdep e he hbi
      rcases h1 with h1 | h1
      · rw [← h1]; exact h2
      · have := hF.fw k o ho e he
        exact hI.closed e.on j (by omega) hj h2 h1
    have huse := hI.use (hE := hE) hway (by rw [e0]; exact ha.1) hk hd hr
    obtain ⟨hin, hdid⟩ := hway.did hE ho
    have hck : ∀ x, c ≤ x → x ≤ L.length → (∀ e, c ≤ e → e < x → is.kinds.getD e 0 ≠ 3) → Rel P r' (Bk x).get w' := fun x h1 h2 h3 => hI.rel.sub2 (hI.sub (hE := hE) hway hob hFr h1 h2 h3)
    cases hdid with
    | skip hw hA hB hn =>
      rw [if_neg (by rw [hw a' r' huse]; simp)]
      by_cases h3 : is.kinds.getD k 0 = 3
      · refine ⟨r', k + 1, next_act (hE := hE) hway hob hI hFr ho hd hr e2 hA hin (v := undefA) h3 trivial ?_ ?_⟩
        · rw [hB]; exact hck k (hI.ahead hway hk hd (.inr h3)) (Nat.le_of_lt hk) (hI.calm_to hway hk h3 hr)
        · rw [hB, hn]; exact Stp.refl _ _ _ _
      · exact ⟨r', c, next_quiet (hE := hE) hway hI ho hd hr e2 hA hin (v := undefA) trivial h3 (fun hal => by have := hal.2.2; omega)⟩
    | calm v hk0 hw hA hB hn hq =>
      rw [if_pos (hw a' r' huse)]
      obtain ⟨g1, g2⟩ := hq r' w' a' (hI.rel.sub2 fun id o p h1 _ => by cases h1) huse
      exact g2 _ _ ⟨r', c, next_quiet (hE := hE) hway hI ho hd hr e2 hA hin g1 (by omega) (fun hal => by have := hal.2.1; omega)⟩
    | read v hk1 hw hA hB hn hq hf =>
      rw [if_pos (hw a' r' huse)]
      have key : ok r' v ∧ ∀ K Q, K (a'.put o.dst (conc r' v)) w' → o.wp P a' w' K Q := by
        rcases Nat.lt_or_ge k c with hkc | hkc
        · -- what acted last acted behind it
          have hcm := hI.cm
          rcases hI.cz with h2 | h2
          · omega
          · have hdc := (hI.eff (c - 1) (by omega) h2).2 (by omega)
            have hne : k ≠ c - 1 := fun e => by rw [← e, hk1] at h2; cases h2
            have hb1 : bit (anc L) k (c - 1) = false := by
              cases e : bit (anc L) k (c - 1) with
              | false => rfl
              | true => have := hF.lt k (c - 1) hk (by omega) e; omega
            have hb2 : bit (anc L) (c - 1) k = false := by
              cases e : bit (anc L) (c - 1) k with
              | false => rfl
              | true =>
                have := hI.closed (c - 1) k (by omega) hk hdc e
                rw [hd] at this; cases this
            have := hf (c - 1) (by omega) h2 hb1 hb2
            rw [if_pos (by omega), show c - 1 + 1 = c by omega] at this
            exact this r' w' a' (hck c (Nat.le_refl _) hcm fun e _ _ => by omega) huse
        · by_cases hx : ∃ e, c ≤ e ∧ e < k ∧ is.kinds.getD e 0 = 3
          · -- the first that acts
            have hfirst : ∃ e, c ≤ e ∧ e < k ∧ is.kinds.getD e 0 = 3 ∧ ∀ e', c ≤ e' → e' < e → is.kinds.getD e' 0 ≠ 3 := by
              obtain ⟨e, h1, h2, h3⟩ := hx
              induction e using Nat.strongRecOn with
              | ind e ih =>
                by_cases hy : ∃ e', c ≤ e' ∧ e' < e ∧ is.kinds.getD e' 0 = 3
                · obtain ⟨e', g1, g2, g3⟩ := hy
                  exact ih e' g2 g1 (by omega) g3
                · exact ⟨e, h1, h2, h3, fun e' g1 g2 g3 => hy ⟨e', g1, g2, g3⟩⟩
            obtain ⟨e, h1, h2, h3, h4⟩ := hfirst
            have hde : d e = false := by
              cases e5 : d e with
              | false => rfl
              | true => have := (hI.eff e (by omega) h3).1 e5; omega
            have hb1 : bit (anc L) k e = false := by
              cases e5 : bit (anc L) k e with
              | false => rfl
              | true =>
                have := hr e (by omega) e5
                rw [hde] at this; cases this
            have hb2 : bit (anc L) e k = false := by
              cases e5 : bit (anc L) e k with
              | false => rfl
              | true => have := hF.lt e k (by omega) hk e5; omega
            have := hf e (by omega) h3 hb1 hb2
            rw [if_neg (by omega)] at this
            exact this r' w' a' (hck e h1 (by omega) h4) huse
          · exact hq r' w' a' (hck k hkc (Nat.le_of_lt hk) fun e h1 h2 h3 => hx ⟨e, h1, h2, h3⟩) huse
      exact key.2 _ _ ⟨r', c, next_quiet (hE := hE) hway hI ho hd hr e2 hA hin key.1 (by omega) (fun hal => by have := hal.2.1; omega)⟩
    | make v' ob' hk2 hw hA hB hn hop =>
      rw [if_pos (hw a' r' huse)]
      have hal : Al L is.kinds nk k := ⟨hk, hk2, hn⟩
      obtain ⟨v, _, hA, hop⟩ := hmk k o ho hal
      refine hop.2 r' w' a' (hI.rel.sub2 fun id o p h1 _ => by cases h1) huse ?_ _ _ fun r2 w2 hs2 hR2 hv2 => ?_
      · intro id h1 h2
        have h3 : id = nk k := by omega
        subst h3
        cases e : r' (nk k) with
        | none => rfl
        | some p =>
          rcases hI.dom (nk k) (by rw [e]; rfl) with g1 | ⟨j, g1, g2, g3, g4⟩
          · have := hFr (nk k) (hway.mono (hE := hE) 0 k (Nat.zero_le _) (by omega)) (by
              have := hway.mono (hE := hE) (k + 1) L.length (by omega) (Nat.le_refl _)
              omega)
            rw [this] at g1; cases g1
          · rcases Nat.lt_trichotomy j k with h6 | h6 | h6
            · have := hway.mono (hE := hE) (j + 1) k h6 (by omega); omega
            · subst h6; rw [hd] at g2; cases g2
            · have := hway.mono (hE := hE) (k + 1) j h6 (by omega); omega
      · exact ⟨r2, c, next_make (hE := hE) hway hI ho hd hr e2 hA hin hal hv2 hR2 hs2⟩
    | act v hk3 hw hA hop =>
      rw [if_pos (hw a' r' huse)]
      refine hop.2 r' w' a' (hck k (hI.ahead hway hk hd (.inr hk3)) (Nat.le_of_lt hk) (hI.calm_to hway hk hk3 hr)) huse ?_ _ _ fun r2 w2 hs2 hR2 hv2 => ?_
      · intro id h1 h2
        cases e : r' id with
        | none => rfl
        | some p =>
          rcases hI.dom id (by rw [e]; rfl) with g1 | ⟨j, g1, g2, g3, g4⟩
          · have := hFr id (Nat.le_trans (hway.mono (hE := hE) 0 k (Nat.zero_le _) (by omega)) h1) (Nat.lt_of_lt_of_le h2 (hway.mono (hE := hE) (k + 1) L.length (by omega) (Nat.le_refl _)))
            rw [this] at g1; cases g1
          · rcases Nat.lt_trichotomy j k with h6 | h6 | h6
            · have := hway.mono (hE := hE) (j + 1) k h6 (by omega); omega
            · subst h6; rw [hd] at g2; cases g2
            · have := hway.mono (hE := hE) (k + 1) j h6 (by omega); omega
      · exact ⟨r2, k + 1, next_act (hE := hE) hway hob hI hFr ho hd hr e2 hA hin hk3 hv2 hR2 hs2⟩
  · rintro d a' w' hall ⟨r', c, hI⟩
    have hcalm : ∀ e, c ≤ e → e < L.length → is.kinds.getD e 0 ≠ 3 := fun e h1 h2 h3 => by
      have := (hI.eff e h2 h3).1 (hall e h2)
      omega
    have hsub := hI.sub (hE := hE) hway hob hFr hI.cm (Nat.le_refl _) hcalm
    refine hP r' w' a' (hI.stp.less hsub) (hI.rel.sub2 hsub) ⟨fun t u hu => ?_, hI.sz⟩ ?_
    · by_cases hw : ∃ (j : Nat) (o : Oper), L[j]? = some o ∧ o.dst = some t
      · obtain ⟨j, o, hj, hdj⟩ := hw
        refine hI.vi j o t hj hdj (hall j (len_of hj)) u (ak_back (hE := hE) hway (j + 1) L.length (len_of hj) (Nat.le_refl _) (fun j' o' h1 h2 h3 h4 => ?_) hu)
        have := hF.uniq j' j o' o t h3 hj h4 hdj
        omega
      · have hu0 := ak_back (hE := hE) hway 0 L.length (Nat.zero_le _) (Nat.le_refl _) (fun j o _ _ h3 h4 => hw ⟨j, o, h3, h4⟩) hu
        rw [e0] at hu0
        obtain ⟨h1, h2⟩ := ha.1 t u hu0
        rw [hI.vn t fun j o h3 h4 => absurd ⟨j, o, h3, h4⟩ hw]
        exact ⟨by rw [conc_ext hI.stp.ext h2]; exact h1, ok_ext hI.stp.ext h2⟩
    · rw [hI.df]; exact hD.ext hI.stp.ext
end
end Go.Ev
end

section
namespace Go.Ev
open Go Go.RowKit
/-! A call that was run once, ahead -/
inductive LO where
  | row (m : Nat) (kn : Bool) (tp : Nat) (l : AV)
  | map (es : List (AV × AV))
deriving Inhabited
abbrev HL := List (Nat × LO)
/-- A call, the memory it needs, and what it comes to. -/
structure TE where
  args : AV
  n : Nat
  pre : HL
  v : AV
  post : HL
  n' : Nat
noncomputable section
def LO.ao : LO → AO
  | .row m kn tp l => .row m kn tp (setCells l .nil 0)
  | .map es => .map es
def cellsIn (l : AV) (c : Tr AV) : Nat → Bool :=
  AV.rec (motive := fun _ => Nat → Bool) (fun _ => true) (fun h _ _ ih i => @Option.rec AV (fun _ => Bool) false (fun v => @Bool.rec (fun _ => Bool) false (ih (Nat.succ i)) (decide (h = v))) (c.get i))
    (fun _ _ => true) (fun _ _ _ => true) (fun _ _ => true) (fun _ _ _ => true) (fun _ => true) (fun _ _ _ _ _ => true) (fun _ _ _ _ _ => true) (fun _ => true) (fun _ _ => true) (fun _ => true) (fun _ _ _ _ => true) (fun _ => true) (fun _ _ _ _ => true) (fun _ => true) (fun _ _ _ => true) (fun _ _ _ => true) l
def subO : LO → AO → Bool
  | .row m kn tp l, .row m' kn' tp' c => and (and (Nat.beq m m') (kn == kn')) (and (Nat.beq tp tp') (cellsIn l c 0))
  | .map es, .map es' => decide (es = es')
  | _, _ => false
def inB (B : Tr AO) (l : HL) : Bool := List.rec true (fun p _ ih => @Option.rec AO (fun _ => Bool) false (fun o => @Bool.rec (fun _ => Bool) false ih (subO p.2 o)) (B.get p.1)) l
def addB (B : Tr AO) (l : HL) : Tr AO := List.rec B (fun p _ ih => ih.set p.1 p.2.ao) l
def delB (B : Tr AO) (l : HL) : Tr AO := List.rec B (fun p _ ih => ih.del p.1) l
def hasId (l : HL) (id : Nat) : Bool := List.rec false (fun p _ ih => @Bool.rec (fun _ => Bool) ih true (Nat.beq p.1 id)) l
/-- All names lie below n. -/
def belowB (B : Tr AO) (n : Nat) : Nat → Nat → Bool :=
  Tr.rec (motive := fun _ => Nat → Nat → Bool) (fun _ _ => true)
    (fun v _ _ hl hr a b => and (@Option.rec AO (fun _ => Bool) true (fun _ => Nat.blt b n) v) (and (hl (Nat.mul 2 a) (Nat.add a b)) (hr (Nat.mul 2 a) (Nat.add (Nat.mul 2 a) b)))) B
def tabRun (t : TE) (args : AV) (B : Tr AO) (n : Nat) : FR :=
  bif and (and (decide (args = t.args)) (Nat.beq n t.n)) (and (inB B t.pre) (belowB B n 1 0)) then .ok t.v (addB (delB B t.pre) t.post) t.n' else .bad
def tabOk (E : Fns) (f : Nat) (t : TE) : Bool :=
  match E f t.args (addB .nil t.pre) t.n with
  | .ok v B' n' => and (and (decide (v = t.v)) (Nat.beq n' t.n')) (and (inB B' t.post) (t.post.all fun p => Nat.ble t.n p.1 || hasId t.pre p.1))
  | .bad => false
end
section
variable {P : Program} {r r' : Rho} {H H' H'' X : Hf} {w w' : World} {n n' : Nat}
/-- Less is known of the block. -/
def Le : AO → AO → Prop
  | .row m kn tp c, .row m' kn' tp' c' => m = m' ∧ kn = kn' ∧ tp = tp' ∧ ∀ i v, c.get i = some v → c'.get i = some v
  | .map es, .map es' => es = es'
  | _, _ => False
theorem Le.refl (o : AO) : Le o o := by cases o <;> simp [Le]
def Wk (r : Rho) (H' H : Hf) : Prop := ∀ id o' p, H' id = some o' → r id = some p → ∃ o, H id = some o ∧ Le o' o
theorem Rel.weak (h : Rel P r H w) (hs : Wk r H' H) : Rel P r H' w := by
  refine ⟨h.glob, ?_, ?_, ?_⟩
  · intro id m kn tp c b K h1 h2
    obtain ⟨o, h3, h4⟩ := hs _ _ _ h1 h2
    cases o with
    | row m' kn' tp' c' =>
      obtain ⟨rfl, rfl, rfl, h5⟩ := h4
      obtain ⟨cs, ty, fr, g1, g2, g3, g4⟩ := h.row id _ _ _ c' b K h3 h2
      exact ⟨cs, ty, fr, g1, g2, g3, fun i v hv => g4 i v (h5 i v hv)⟩
    | map es => exact h4.elim
  · intro id es b K h1 h2
    obtain ⟨o, h3, h4⟩ := hs _ _ _ h1 h2
    cases o with
    | row m' kn' tp' c' => exact h4.elim
    | map es' =>
      have h4 : es = es' := h4
      subst h4
      exact h.map id es b K h3 h2
  · intro id id' o o' p p' h1 h2 h3 h4 h5
    obtain ⟨u, g1, _⟩ := hs _ _ _ h1 h3
    obtain ⟨u', g2, _⟩ := hs _ _ _ h2 h4
    exact h.inj id id' u u' p p' g1 g2 h3 h4 h5
theorem Stp.wideW (h : Stp r H n w r' H' n' w') (hs : Wk r H H'') : Stp r H'' n w r' H' n' w' :=
  ⟨h.os, h.tape, h.output, h.size, h.ext, h.dom, fun b hb hn => h.keep b hb fun id o p h1 h2 => by
    obtain ⟨u, g1, _⟩ := hs _ _ _ h1 h2
    exact hn id u p g1 h2,
   fun id o p h1 h2 => (h.new id o p h1 h2).imp_right fun ⟨id0, o0, p0, h3, h4, h5⟩ => by
    obtain ⟨u, g1, _⟩ := hs _ _ _ h3 h4
    exact ⟨id0, u, p0, g1, h4, h5⟩, h.le⟩
theorem Stp.lessW (h : Stp r H n w r' H' n' w') (hs : Wk r' H'' H') : Stp r H n w r' H'' n' w' :=
  ⟨h.os, h.tape, h.output, h.size, h.ext, h.dom, h.keep, fun id o p h1 h2 => by
    obtain ⟨u, g1, _⟩ := hs _ _ _ h1 h2
    exact h.new id u p g1 h2, h.le⟩
theorem addB_get {B : Tr AO} : ∀ {l : HL} {id : Nat} {o : AO}, (addB B l).get id = some o → (∃ p ∈ l, p.1 = id ∧ p.2.ao = o) ∨ B.get id = some o
  | [], _, _, h => .inr h
  | p :: l, id, o, h => by
    rcases Tr.get_set (show ((addB B l).set p.1 p.2.ao).get id = some o from h) with ⟨h1, h2⟩ | ⟨_, h2⟩
    · exact .inl ⟨p, List.mem_cons_self, h1.symm, h2⟩
    · exact (addB_get h2).imp_left fun ⟨q, h3, h4⟩ => ⟨q, List.mem_cons_of_mem _ h3, h4⟩
theorem delB_get {B : Tr AO} : ∀ {l : HL} {id : Nat} {o : AO}, (delB B l).get id = some o → (∀ p ∈ l, p.1 ≠ id) ∧ B.get id = some o
  | [], _, _, h => ⟨fun p hp => (by cases hp), h⟩
  | p :: l, id, o, h => by
    obtain ⟨h1, h2⟩ := Tr.get_del (show ((delB B l).del p.1).get id = some o from h)
    obtain ⟨h3, h4⟩ := delB_get h2
    refine ⟨fun q hq => ?_, h4⟩
    rcases List.mem_cons.1 hq with rfl | hq
    · exact Ne.symm h1
    · exact h3 q hq
theorem cellsIn_at {c : Tr AV} : ∀ {l : AV} {i : Nat}, cellsIn l c i = true → ∀ k v, AV.nth k l = some v → c.get (i + k) = some v
  | .cons h t, i, e, k, v, hv => by
    have e : (@Option.rec AV (fun _ => Bool) false (fun v => @Bool.rec (fun _ => Bool) false (cellsIn t c (Nat.succ i)) (decide (h = v))) (c.get i)) = true := e
    cases hg : c.get i with
    | none => rw [hg] at e; cases e
    | some u =>
      rw [hg] at e
      have e : (@Bool.rec (fun _ => Bool) false (cellsIn t c (Nat.succ i)) (decide (h = u))) = true := e
      by_cases hu : h = u
      · rw [decide_eq_true hu] at e
        have e : cellsIn t c (Nat.succ i) = true := e
        cases k with
        | zero =>
          rw [nth_zero] at hv
          cases hv
          rw [Nat.add_zero, hg, hu]
        | succ k =>
          rw [nth_succ] at hv
          have := cellsIn_at e k v hv
          rw [show i + (k + 1) = Nat.succ i + k by omega]; exact this
      · rw [decide_eq_false hu] at e; cases e
  | .nil, i, e, k, v, hv | .b _, i, e, k, v, hv | .i _ _, i, e, k, v, hv | .s _, i, e, k, v, hv | .p _ _, i, e, k, v, hv | .pn, i, e, k, v, hv | .sl _ _ _ _, i, e, k, v, hv | .su _ _ _ _, i, e, k, v, hv | .sn, i, e, k, v, hv | .m _, i, e, k, v, hv | .mn, i, e, k, v, hv | .f _ _, i, e, k, v, hv | .fn, i, e, k, v, hv | .ifc _ _, i, e, k, v, hv | .ifn, i, e, k, v, hv | .ag _, i, e, k, v, hv | .tu _, i, e, k, v, hv =>
    absurd (nth_lt hv) (Nat.not_lt_zero k)
theorem subO_le {l : LO} {o : AO} (h : subO l o = true) : Le l.ao o := by
  cases l <;> cases o
  · rename_i m kn tp l m' kn' tp' c
    simp only [subO, Bool.and_eq_true, Nat.beq_eq, beq_iff_eq] at h
    obtain ⟨⟨h1, h2⟩, h3, h4⟩ := h
    refine ⟨h1, h2, h3, fun i v hv => ?_⟩
    rcases setCells_get hv with ⟨k, _, g2, g3⟩ | ⟨g1, _⟩
    · rw [g2]; exact cellsIn_at h4 k v g3
    · cases g1
  · cases h
  · cases h
  · rename_i es es'
    have h : decide (es = es') = true := h
    have h : es = es' := of_decide_eq_true h
    exact h
theorem inB_at {B : Tr AO} : ∀ {l : HL}, inB B l = true → ∀ p ∈ l, ∃ o, B.get p.1 = some o ∧ Le p.2.ao o
  | [], _, p, hp => by cases hp
  | q :: l, h, p, hp => by
    have h : (@Option.rec AO (fun _ => Bool) false (fun o => @Bool.rec (fun _ => Bool) false (inB B l) (subO q.2 o)) (B.get q.1)) = true := h
    cases hg : B.get q.1 with
    | none => rw [hg] at h; cases h
    | some o =>
      rw [hg] at h
      have h : (@Bool.rec (fun _ => Bool) false (inB B l) (subO q.2 o)) = true := h
      cases hs : subO q.2 o with
      | false => rw [hs] at h; cases h
      | true =>
        rw [hs] at h
        rcases List.mem_cons.1 hp with rfl | hp
        · exact ⟨o, hg, subO_le hs⟩
        · exact inB_at (show inB B l = true from h) p hp
theorem hasId_at : ∀ {l : HL} {id : Nat}, hasId l id = true → ∃ p ∈ l, p.1 = id
  | [], _, h => by cases h
  | q :: l, id, h => by
    have h : (@Bool.rec (fun _ => Bool) (hasId l id) true (Nat.beq q.1 id)) = true := h
    cases hb : Nat.beq q.1 id with
    | true => exact ⟨q, List.mem_cons_self, by simpa using hb⟩
    | false =>
      rw [hb] at h
      obtain ⟨p, h1, h2⟩ := hasId_at (show hasId l id = true from h)
      exact ⟨p, List.mem_cons_of_mem _ h1, h2⟩
theorem below_at : ∀ {B : Tr AO} {a b id : Nat} {o : AO}, belowB B n a b = true → B.get id = some o → a * id + b < n
  | .nil, _, _, _, _, _, h => by cases h
  | .node v l r, a, b, id, o, hb, h => by
    have hb : and (@Option.rec AO (fun _ => Bool) true (fun _ => Nat.blt b n) v) (and (belowB l n (Nat.mul 2 a) (Nat.add a b)) (belowB r n (Nat.mul 2 a) (Nat.add (Nat.mul 2 a) b))) = true := hb
    simp only [Bool.and_eq_true] at hb
    obtain ⟨h1, h2, h3⟩ := hb
    cases id with
    | zero =>
      rw [Tr.get_zero] at h
      subst h
      have h1 : Nat.blt b n = true := h1
      simp [Nat.blt] at h1; omega
    | succ m =>
      rw [Tr.get_succ] at h
      split at h
      · have := below_at h2 h
        simp only [Nat.mul_eq, Nat.add_eq] at this
        have e : m = 2 * (m / 2) := by omega
        generalize m / 2 = q at *
        subst e
        have : a * (2 * q + 1) + b = 2 * a * q + (a + b) := by rw [Nat.mul_add, Nat.mul_left_comm, Nat.mul_assoc]; omega
        omega
      · have := below_at h3 h
        simp only [Nat.mul_eq, Nat.add_eq] at this
        have e : m = 2 * (m / 2) + 1 := by omega
        generalize m / 2 = q at *
        subst e
        have : a * (2 * q + 1 + 1) + b = 2 * a * q + (2 * a + b) := by
          rw [show 2 * q + 1 + 1 = 2 * q + 2 by omega, Nat.mul_add, Nat.mul_left_comm, Nat.mul_assoc, Nat.mul_comm a 2]; omega
        omega
theorem tab_sound {E : Fns} (hE : Sound P E) {f : Nat} {t : TE} (hok : tabOk E f t = true) {args : AV} {B : Tr AO} {n : Nat} {v : AV} {B' : Tr AO} {n' : Nat} (h : tabRun t args B n = .ok v B' n') : FnS P f args B n v B' n' := by
  unfold tabRun at h
  cases hc : and (and (decide (args = t.args)) (Nat.beq n t.n)) (and (inB B t.pre) (belowB B n 1 0)) with
  | false => rw [hc] at h; cases h
  | true =>
    rw [hc] at h
    have h : FR.ok t.v (addB (delB B t.pre) t.post) t.n' = .ok v B' n' := h
    injection h with hv hB hn
    simp only [Bool.and_eq_true, Nat.beq_eq] at hc
    obtain ⟨⟨ha, hn0⟩, hin, hbl⟩ := hc
    have ha := of_decide_eq_true ha
    unfold tabOk at hok
    split at hok
    · rename_i v1 B1 n1 hrun
      simp only [Bool.and_eq_true, Nat.beq_eq] at hok
      obtain ⟨⟨hv1, hn1⟩, hpo, hids⟩ := hok
      have hv1 := of_decide_eq_true hv1
      subst hv; subst hn; subst hB; subst ha; subst hn0; subst hv1; subst hn1
      obtain ⟨hle, hS⟩ := hE f t.args (addB .nil t.pre) t.n t.v B1 t.n' hrun
      have hpre : ∀ id o, (addB .nil t.pre).get id = some o → ∃ p ∈ t.pre, p.1 = id ∧ p.2.ao = o := fun id o h => by
        rcases addB_get h with h | h
        · exact h
        · cases h
      refine ⟨hle, fun r w hR hargs hF o a K Q hK => ?_⟩
      have hwk : ∀ r, Wk r (addB .nil t.pre).get B.get := by
        intro r id o' p h1 _
        obtain ⟨q, h2, h3, h4⟩ := hpre id o' h1
        obtain ⟨o, h5, h6⟩ := inB_at hin q h2
        exact ⟨o, by rw [← h3]; exact h5, by rw [← h4]; exact h6⟩
      -- what the call does not see
      obtain ⟨X, hX⟩ : ∃ X : Hf, X = fun id => if hasId t.pre id = true then none else B.get id := ⟨_, rfl⟩
      have hXs : ∀ id o, X id = some o → hasId t.pre id = false ∧ B.get id = some o := by
        intro id o h1
        subst hX
        dsimp only at h1
        split at h1
        · cases h1
        · rename_i h2
          exact ⟨by simpa using h2, h1⟩
      have hhas : ∀ p ∈ t.pre, hasId t.pre p.1 = true := by
        intro p hp
        generalize t.pre = l at hp
        induction l with
        | nil => cases hp
        | cons q l ih =>
          show (@Bool.rec (fun _ => Bool) (hasId l p.1) true (Nat.beq q.1 p.1)) = true
          rcases List.mem_cons.1 hp with rfl | hp
          · rw [show Nat.beq p.1 p.1 = true by simp]
          · cases Nat.beq q.1 p.1 with
            | true => rfl
            | false => exact ih hp
      refine hS r w (hR.weak (hwk r)) hargs hF o a K Q fun r' w' hs hR' hv' => ?_
      have hwo : Wk r (ovl (addB .nil t.pre).get X) B.get := by
        intro id o' p h1 h2
        rcases ovl_some h1 with h3 | ⟨_, h3⟩
        · exact ⟨o', (hXs id o' h3).2, Le.refl o'⟩
        · exact hwk r id o' p h3 h2
      obtain ⟨g1, g2⟩ := frame (X := X) (hR.weak hwo) hs hR' (fun id o h1 => by
          cases e : (addB .nil t.pre).get id with
          | none => rfl
          | some u =>
            obtain ⟨p, h2, h3, _⟩ := hpre id u e
            have := hhas p h2
            rw [h3, (hXs id o h1).1] at this; cases this) (fun id o p h1 h2 => by
          cases e : r id with
          | some q => rw [hs.ext id q e] at h2; rw [← h2]
          | none =>
            rcases hs.dom id (by rw [h2]; rfl) with h3 | h3
            · rw [e] at h3; cases h3
            · have := below_at hbl (hXs id o h1).2
              omega)
      have hfin : Wk r' (addB (delB B t.pre) t.post).get (ovl B1.get X) := by
        intro id o' p h1 h2
        rcases addB_get h1 with ⟨q, h3, h4, h5⟩ | h3
        · have hq := List.all_eq_true.1 hids q h3
          have hxn : X id = none := by
            cases e : X id with
            | none => rfl
            | some u =>
              obtain ⟨e1, e2⟩ := hXs id u e
              rw [Bool.or_eq_true] at hq
              rcases hq with hq | hq
              · have := below_at hbl e2
                have := Nat.le_of_ble_eq_true hq
                omega
              · rw [h4, e1] at hq; cases hq
          rw [ovl_h hxn]
          obtain ⟨u, h6, h7⟩ := inB_at hpo q h3
          exact ⟨u, by rw [← h4]; exact h6, by rw [← h5]; exact h7⟩
        · obtain ⟨h4, h5⟩ := delB_get h3
          refine ⟨o', ovl_x ?_, Le.refl o'⟩
          subst hX
          dsimp only
          rw [if_neg ?_]
          · exact h5
          · intro h6
            obtain ⟨q, h7, h8⟩ := hasId_at h6
            exact h4 q h7 h8
      exact hK r' w' ((g2.wideW hwo).lessW hfin) (g1.weak hfin) hv'
    · cases hok
end
end Go.Ev
end

section
namespace Go.Ev
open Go Go.RowKit
section
variable {P : Program} {r r' : Rho} {w w' : World} {B B' : Tr AO} {n n' : Nat}
/-- A block that a call made. -/
theorem rel_beyond {o : AO} {g K : Nat} (hR : Rel P r B.get w) (hn : r n = none) (hb : Below w.heap.size w w') (hg : w.heap.size ≤ g)
    (hrow : ∀ m kn tp c, o = .row m kn tp c → RowAt (upd r n (g, K)) w' g K m kn tp c) (hmap : ∀ es, o = .map es → MapAt (upd r n (g, K)) w' g es) :
    Rel P (upd r n (g, K)) (B.set n o).get w' ∧ Stp r B.get n w (upd r n (g, K)) (B.set n o).get (n + 1) w' := by
  have he := upd_ext (p := (g, K)) hn
  have hold : ∀ id u b K', B.get id = some u → r id = some (b, K') → w'.heap[b]? = w.heap[b]? := fun id u b K' h1 h2 => hb.block b (hR.lt h1 h2)
  have key : ∀ id u p, (B.set n o).get id = some u → upd r n (g, K) id = some p → (id = n ∧ u = o ∧ p = (g, K)) ∨ (id ≠ n ∧ B.get id = some u ∧ r id = some p) := by
    intro id u p h1 h2
    rcases Tr.get_set h1 with ⟨e, e2⟩ | ⟨e, h3⟩
    · subst e; rw [upd_same] at h2; cases h2; exact .inl ⟨rfl, e2.symm, rfl⟩
    · rw [upd_ne e] at h2; exact .inr ⟨e, h3, h2⟩
  refine ⟨⟨fun g hg => he _ _ (hR.glob g hg), ?_, ?_, ?_⟩, ⟨⟨hb.os, KeepK.of hb.block⟩, hb.tape, hb.output, hb.size, he, ?_, ?_, ?_, Nat.le_succ n⟩⟩
  · intro id m kn tp c b K' h1 h2
    rcases key id _ _ h1 h2 with ⟨_, e2, e3⟩ | ⟨_, h3, h4⟩
    · cases e3; exact hrow m kn tp c e2.symm
    · exact (hR.row id m kn tp c b K' h3 h4).keep he (hold _ _ _ _ h3 h4)
  · intro id es b K' h1 h2
    rcases key id _ _ h1 h2 with ⟨_, e2, e3⟩ | ⟨_, h3, h4⟩
    · cases e3; exact hmap es e2.symm
    · exact (hR.map id es b K' h3 h4).keep he (hold _ _ _ _ h3 h4)
  · intro id id' u u' p p' h1 h2 h3 h4 h5
    rcases key id _ _ h1 h3 with ⟨e1, _, e3⟩ | ⟨_, g1, g2⟩ <;> rcases key id' _ _ h2 h4 with ⟨f1, _, f3⟩ | ⟨_, g3, g4⟩
    · exact e1.trans f1.symm
    · have := hR.lt g3 g4; rw [← h5, e3] at this; exact absurd this (Nat.not_lt.2 hg)
    · have := hR.lt g1 g2; rw [h5, f3] at this; exact absurd this (Nat.not_lt.2 hg)
    · exact hR.inj id id' u u' p p' g1 g3 g2 g4 h5
  · intro id hid
    by_cases e : id = n
    · exact .inr (by omega)
    · rw [upd_ne e] at hid; exact .inl hid
  · intro b hb' _
    exact hb.block b hb'
  · intro id u p h1 h2
    rcases key id _ _ h1 h2 with ⟨_, _, e3⟩ | ⟨_, h3, h4⟩
    · exact .inl (by rw [e3]; exact hg)
    · exact .inr ⟨id, u, p, h3, h4, rfl⟩
/-- Nothing that is known has turned. -/
theorem stp_below (hb : Below w.heap.size w w') (_ : Rel P r B.get w) : Stp r B.get n w r B.get n w' :=
  ⟨⟨hb.os, KeepK.of hb.block⟩, hb.tape, hb.output, hb.size, Ext.refl r, fun _ h => .inl h, fun b h _ => hb.block b h, fun id o p h1 h2 => .inr ⟨id, o, p, h1, h2, rfl⟩, Nat.le_refl n⟩
theorem Rel.below (hR : Rel P r B.get w) (hb : Below w.heap.size w w') : Rel P r B.get w' := hR.same fun _ _ p h1 h2 => hb.block p.1 (hR.lt h1 h2)
/-- A contract of the kit, as ours. -/
theorem fns_of_calls {f : Nat} {args v : AV} (hent : ∀ args w, (callFunc f args).run P w = .ok (.enter f args) w) (hle : n ≤ n')
    (h : ∀ r w, Rel P r B.get w → ok r args → Fresh r n n' → Calls P f (concL r args).toArray w fun e w' => ∃ r', Stp r B.get n w r' B'.get n' w' ∧ Rel P r' B'.get w' ∧ ok r' v ∧ e = .returned (conc r' v)) : FnS P f args B n v B' n' := by
  refine ⟨hle, fun r w hR ha hF o a K Q hK => ?_⟩
  rw [hent, Oper.upon_enter]
  refine (h r w hR ha hF).mono ?_
  rintro e w' ⟨r', h1, h2, h3, rfl⟩
  exact hK r' w' h1 h2 h3
end
end Go.Ev
end
