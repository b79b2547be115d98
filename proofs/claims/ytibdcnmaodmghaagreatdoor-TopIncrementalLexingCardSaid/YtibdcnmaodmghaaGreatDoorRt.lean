/- The rope: weights and depths; steps of drawn regions. -/
import Derived.Test.YtibdcnmaodmghaaGreatDoorBase
section
namespace Go.Proofs.YtibdcnmaodmghaaGreatDoor
open Go.RowKit
set_option maxRecDepth 20000
/-- The number of bits of a small number. -/
def lenV (x : Nat) : Int := if x = 0 then 0 else if x = 1 then 1 else if x < 4 then 2 else if x < 8 then 3 else 4
set_option maxHeartbeats 1000000 in
theorem len64_0 (w : World) : Calls Tryz.prog 211 #[.int .u64 (0 : Nat)] w fun e w' => e = .returned (.int .i64 0) ∧ w' = w := by
  go_enter Tryz.func211, Tryz.ntmps211
  go_wp2_with fail
  go_ret
  refine ⟨congrArg (fun z => Ending.returned (.int .i64 z)) (?_ : _ = (0 : Int)), rfl⟩
  kernel_rfl
set_option maxHeartbeats 1000000 in
theorem len64_1 (w : World) : Calls Tryz.prog 211 #[.int .u64 (1 : Nat)] w fun e w' => e = .returned (.int .i64 1) ∧ w' = w := by
  go_enter Tryz.func211, Tryz.ntmps211
  go_wp2_with fail
  go_ret
  refine ⟨congrArg (fun z => Ending.returned (.int .i64 z)) (?_ : _ = (1 : Int)), rfl⟩
  kernel_rfl
set_option maxHeartbeats 1000000 in
theorem len64_2 (w : World) : Calls Tryz.prog 211 #[.int .u64 (2 : Nat)] w fun e w' => e = .returned (.int .i64 2) ∧ w' = w := by
  go_enter Tryz.func211, Tryz.ntmps211
  go_wp2_with fail
  go_ret
  refine ⟨congrArg (fun z => Ending.returned (.int .i64 z)) (?_ : _ = (2 : Int)), rfl⟩
  kernel_rfl
set_option maxHeartbeats 1000000 in
theorem len64_3 (w : World) : Calls Tryz.prog 211 #[.int .u64 (3 : Nat)] w fun e w' => e = .returned (.int .i64 2) ∧ w' = w := by
  go_enter Tryz.func211, Tryz.ntmps211
  go_wp2_with fail
  go_ret
  refine ⟨congrArg (fun z => Ending.returned (.int .i64 z)) (?_ : _ = (2 : Int)), rfl⟩
  kernel_rfl
set_option maxHeartbeats 1000000 in
theorem len64_4 (w : World) : Calls Tryz.prog 211 #[.int .u64 (4 : Nat)] w fun e w' => e = .returned (.int .i64 3) ∧ w' = w := by
  go_enter Tryz.func211, Tryz.ntmps211
  go_wp2_with fail
  go_ret
  refine ⟨congrArg (fun z => Ending.returned (.int .i64 z)) (?_ : _ = (3 : Int)), rfl⟩
  kernel_rfl
set_option maxHeartbeats 1000000 in
theorem len64_5 (w : World) : Calls Tryz.prog 211 #[.int .u64 (5 : Nat)] w fun e w' => e = .returned (.int .i64 3) ∧ w' = w := by
  go_enter Tryz.func211, Tryz.ntmps211
  go_wp2_with fail
  go_ret
  refine ⟨congrArg (fun z => Ending.returned (.int .i64 z)) (?_ : _ = (3 : Int)), rfl⟩
  kernel_rfl
set_option maxHeartbeats 1000000 in
theorem len64_6 (w : World) : Calls Tryz.prog 211 #[.int .u64 (6 : Nat)] w fun e w' => e = .returned (.int .i64 3) ∧ w' = w := by
  go_enter Tryz.func211, Tryz.ntmps211
  go_wp2_with fail
  go_ret
  refine ⟨congrArg (fun z => Ending.returned (.int .i64 z)) (?_ : _ = (3 : Int)), rfl⟩
  kernel_rfl
set_option maxHeartbeats 1000000 in
theorem len64_7 (w : World) : Calls Tryz.prog 211 #[.int .u64 (7 : Nat)] w fun e w' => e = .returned (.int .i64 3) ∧ w' = w := by
  go_enter Tryz.func211, Tryz.ntmps211
  go_wp2_with fail
  go_ret
  refine ⟨congrArg (fun z => Ending.returned (.int .i64 z)) (?_ : _ = (3 : Int)), rfl⟩
  kernel_rfl
set_option maxHeartbeats 1000000 in
theorem len64_8 (w : World) : Calls Tryz.prog 211 #[.int .u64 (8 : Nat)] w fun e w' => e = .returned (.int .i64 4) ∧ w' = w := by
  go_enter Tryz.func211, Tryz.ntmps211
  go_wp2_with fail
  go_ret
  refine ⟨congrArg (fun z => Ending.returned (.int .i64 z)) (?_ : _ = (4 : Int)), rfl⟩
  kernel_rfl
set_option maxHeartbeats 1000000 in
theorem len64_9 (w : World) : Calls Tryz.prog 211 #[.int .u64 (9 : Nat)] w fun e w' => e = .returned (.int .i64 4) ∧ w' = w := by
  go_enter Tryz.func211, Tryz.ntmps211
  go_wp2_with fail
  go_ret
  refine ⟨congrArg (fun z => Ending.returned (.int .i64 z)) (?_ : _ = (4 : Int)), rfl⟩
  kernel_rfl
theorem len64_any (x : Nat) (w : World) (hx : x < 10) : Calls Tryz.prog 211 #[.int .u64 x] w fun e w' => e = .returned (.int .i64 (lenV x)) ∧ w' = w := by
  have h : x = 0 ∨ x = 1 ∨ x = 2 ∨ x = 3 ∨ x = 4 ∨ x = 5 ∨ x = 6 ∨ x = 7 ∨ x = 8 ∨ x = 9 := by omega
  clear hx
  rcases h with rfl | rfl | rfl | rfl | rfl | rfl | rfl | rfl | rfl | rfl
  · exact len64_0 w
  · exact len64_1 w
  · exact len64_2 w
  · exact len64_3 w
  · exact len64_4 w
  · exact len64_5 w
  · exact len64_6 w
  · exact len64_7 w
  · exact len64_8 w
  · exact len64_9 w
set_option maxHeartbeats 1000000 in
theorem len_any (x : Nat) (w : World) (hx : x < 10) : Calls Tryz.prog 137 #[.int .u64 x] w fun e w' => e = .returned (.int .i64 (lenV x)) ∧ w' = w := by
  go_enter Tryz.func137, Tryz.ntmps137
  go_wp2_with fail
  refine (len64_any x w hx).mono ?_
  rintro e w1 ⟨rfl, rfl⟩
  go_wp2_with fail
  go_ret
  exact ⟨rfl, rfl⟩
def boundV (n : Nat) : Int := if n ≤ 64 then 0 else 2 * lenV ((n + 63) / 64 - 1) + 2
theorem lenV_bd (x : Nat) : 0 ≤ lenV x ∧ lenV x ≤ 4 := by unfold lenV; split <;> (try split) <;> (try split) <;> (try split) <;> omega
set_option maxHeartbeats 1000000 in
theorem bound_any (n : Nat) (w : World) (hn : n ≤ 640) : Calls Tryz.prog 83 #[.int .i64 n] w fun e w' => e = .returned (.int .i64 (boundV n)) ∧ w' = w := by
  unfold boundV
  by_cases h : n ≤ 64
  · rw [if_pos h]
    have d : decide ((n : Int) ≤ 64) = true := by simp; omega
    go_enter Tryz.func83, Tryz.ntmps83
    go_wp2_with fail
    go_ret
    exact ⟨rfl, rfl⟩
  · rw [if_neg h]
    have hb := lenV_bd ((n + 63) / 64 - 1)
    have d : decide ((n : Int) ≤ 64) = false := by simp; omega
    have hL := len_any ((n + 63) / 64 - 1) w (by omega)
    generalize hk : (n + 63) / 64 - 1 = k at *
    generalize lenV k = y at *
    have HK := Lib.hid hk
    have HL := Lib.hid hL
    clear hk hL
    go_enter Tryz.func83, Tryz.ntmps83
    go_wp2_with fail
    have hq : ((n : Int) + 64 - 1) / 64 - 1 = (k : Int) := by have := HK.out; omega
    rw [hq]
    refine HL.out.mono ?_
    rintro e w1 ⟨rfl, rfl⟩
    clear hq HL HK
    have m1 : IntKind.i64.wrap (2 * y) = 2 * y := IntWalk.i64_in _ (by omega)
    have m2 : IntKind.i64.wrap (2 * y + 2) = 2 * y + 2 := IntWalk.i64_in _ (by omega)
    go_wp2_with fail
    go_ret
    exact ⟨rfl, rfl⟩
end Go.Proofs.YtibdcnmaodmghaaGreatDoor
end

section
namespace Go.Proofs.YtibdcnmaodmghaaGreatDoor
open Go.RowKit
set_option maxRecDepth 20000
section
variable {P : Program} {ops : Array Oper} {md : Region.Mode} {Q : Exit → Act → World → Prop}

/-- How many are not yet listed. -/
def unlisted (listed : Array Bool) : Nat := listed.toList.count false
theorem unlisted_set : ∀ (l : List Bool) (i : Nat), l[i]? = some false → (l.set i true).count false + 1 = l.count false
  | [], _, h => by simp at h
  | b :: l, 0, h => by simp at h; subst h; simp
  | b :: l, i + 1, h => by
    simp at h
    have ih := unlisted_set l i h
    simp only [List.set_cons_succ, List.count_cons]
    omega
theorem ready_mem {listed : Array Bool} {i : Nat} (h : i ∈ Region.ready md ops listed) : listed.getD i true = false ∧ ∃ o, ops[i]? = some o ∧ ∀ e ∈ o.after, Region.binds md e = true → listed.getD e.on false = true := by
  simp only [Region.ready, List.mem_filter, List.mem_range, Bool.and_eq_true, Bool.not_eq_true'] at h
  obtain ⟨h1, h2, h3⟩ := h
  have ho : ops[i]? = some ops[i] := Array.getElem?_eq_getElem h1
  rw [ho] at h3
  refine ⟨h2, ops[i], ho, fun e he hb => ?_⟩
  simp only [Option.map_some, Option.getD_some] at h3
  have := Array.all_eq_true_iff_forall_mem.1 h3 e he
  simpa [hb] using this
theorem getD_false {listed : Array Bool} {i : Nat} (hl : listed.getD i true = false) : listed[i]? = some false := by
  cases hc : listed[i]? with
  | none => simp [Array.getD_eq_getD_getElem?, hc] at hl
  | some b => simp [Array.getD_eq_getD_getElem?, hc] at hl; rw [hl]
theorem wpAny_inv (I : Array Bool → Act → World → Prop)
    (hstep : ∀ listed a w i, I listed a w → i ∈ Region.ready md ops listed → wpOp P ops Q i (I (listed.setIfInBounds i true)) a w)
    (hend : ∀ listed a w, I listed a w → Region.ready md ops listed = [] → Q .normal a w) :
    ∀ (fuel : Nat) (listed : Array Bool) (a : Act) (w : World), unlisted listed ≤ fuel → I listed a w → wpAny P md ops Q fuel listed a w
  | 0, listed, a, w, hf, h => by
    have hr : Region.ready md ops listed = [] := by
      rw [List.eq_nil_iff_forall_not_mem]
      intro i hi
      have h2 := getD_false (ready_mem hi).1
      rw [← Array.getElem?_toList] at h2
      have := unlisted_set _ _ h2
      unfold unlisted at hf
      omega
    exact ⟨hr, hend _ _ _ h hr⟩
  | fuel + 1, listed, a, w, hf, h => by
    refine ⟨fun hr => hend _ _ _ h hr, fun i hi => ?_⟩
    have h2 := getD_false (ready_mem hi).1
    rw [← Array.getElem?_toList] at h2
    have h3 := unlisted_set _ _ h2
    refine wpOp_mono (fun a' w' h' => wpAny_inv I hstep hend fuel _ a' w' ?_ h') (hstep _ _ _ _ h hi)
    unfold unlisted at hf ⊢
    rw [Array.toList_setIfInBounds]
    omega

/-- What is done, one more. -/
def upd (d : Nat → Bool) (k : Nat) : Nat → Bool := fun j => if j = k then true else d j
/-- Each operation, met in whatever state the invariant allows; what follows stands behind a variable. -/
def StepsOk (P : Program) (ops : Array Oper) (Q : Exit → Act → World → Prop) (I : (Nat → Bool) → Act → World → Prop) : Nat → List Oper → Prop
  | _, [] => True
  | k, o :: rest => (∀ d a w K, d k = false → (∀ e ∈ o.after, Region.binds .any e = true → d e.on = true) → I d a w → Hid (∀ a w, I (upd d k) a w → K a w) →
      if Region.wanted o (yielded ops a.tmps) then o.wp P a w K Q else K (a.put o.dst undef) w) ∧ StepsOk P ops Q I (k + 1) rest
theorem StepsOk.at_ {I : (Nat → Bool) → Act → World → Prop} : ∀ {l : List Oper} {k i : Nat} {o : Oper}, StepsOk P ops Q I k l → l[i]? = some o → ∀ d a w, d (k + i) = false → (∀ e ∈ o.after, Region.binds .any e = true → d e.on = true) → I d a w →
      if Region.wanted o (yielded ops a.tmps) then o.wp P a w (I (upd d (k + i))) Q else I (upd d (k + i)) (a.put o.dst undef) w
  | [], _, _, _, _, h => by simp at h
  | x :: l, k, 0, o, hs, h => by simp at h; subst h; exact fun d a w h1 h2 h3 => hs.1 d a w _ h1 h2 h3 fun _ _ h => h
  | x :: l, k, i + 1, o, hs, h => by
    simp at h
    have := StepsOk.at_ hs.2 h
    rw [show k + (i + 1) = k + 1 + i by omega]
    exact this
/-- The operations wait for earlier ones alone. -/
def forwardB (l : List Oper) : Bool := l.zipIdx.all fun (o, i) => o.after.all fun e => decide (e.on < i)
theorem forward_all {l : List Oper} (hf : forwardB l = true) {listed : Array Bool} (hl : listed.size = l.length) (hr : Region.ready .any l.toArray listed = []) : ∀ n i, i < n → i < l.length → listed.getD i false = true
  | 0, i, h, _ => by omega
  | n + 1, i, h, hi => by
    by_cases hc : listed.getD i false = true
    · exact hc
    · have : i ∈ Region.ready .any l.toArray listed := by
        simp only [Region.ready, List.mem_filter, List.mem_range, Bool.and_eq_true, Bool.not_eq_true']
        have ho : l.toArray[i]? = some l[i] := by simp [hi]
        refine ⟨by simpa using hi, ?_, ?_⟩
        · have h2 : listed[i]? = some listed[i] := Array.getElem?_eq_getElem (by omega)
          simp [Array.getD_eq_getD_getElem?, h2] at hc ⊢
          exact hc
        · rw [ho]
          simp only [Option.map_some, Option.getD_some]
          rw [Array.all_eq_true_iff_forall_mem]
          intro e he
          have hfw := List.all_eq_true.1 hf (l[i], i) (by rw [List.mem_zipIdx_iff_getElem?]; simp [hi])
          have hlt := Array.all_eq_true_iff_forall_mem.1 hfw e he
          simp only [decide_eq_true_eq] at hlt
          rw [forward_all hf hl hr n e.on (by omega) (by omega)]
          simp
      rw [hr] at this
      cases this
theorem wp_region_steps {id : Nat} {a : Act} {w : World} {l : List Oper} (hm : P.follows .mixedOrders = true) (hf : forwardB l = true) (F : Act → Prop) (I : Act → (Nat → Bool) → Act → World → Prop) (hF : F a)
    (h0 : ∀ a0, F a0 → I a0 (fun _ => false) a0 w.drew)
    (hs : ∀ a0, F a0 → StepsOk P l.toArray Q (I a0) 0 l)
    (hend : ∀ d a' w', (∀ i < l.length, d i = true) → I a d a' w' → Q .normal a' w') : (Code.region id l.toArray true).wp P Q a w := by
  have hs' := hs a hF
  refine wp_region_any hm (wpAny_inv (fun listed a' w' => listed.size = l.length ∧ I a (fun i => listed.getD i false) a' w') ?_ ?_ _ _ _ _ ?_ ⟨by simp, ?_⟩)
  · intro listed a' w' i ⟨hsz, hI⟩ hi
    obtain ⟨h1, o, ho, hdep⟩ := ready_mem hi
    have ho' : l[i]? = some o := by simpa using ho
    have hil : i < l.length := (List.getElem?_eq_some_iff.1 ho').1
    have h2 := getD_false h1
    have hst := hs'.at_ (i := i) ho' (fun j => listed.getD j false) a' w' (by simp [Array.getD_eq_getD_getElem?, h2]) (fun e he hb => hdep e he hb) hI
    have hup : I a (upd (fun j => listed.getD j false) (0 + i)) = I a (fun j => (listed.setIfInBounds i true).getD j false) := by
      congr 1
      funext j
      unfold upd
      rw [Nat.zero_add]
      by_cases hj : j = i
      · subst hj
        simp [Array.getD_eq_getD_getElem?, show j < listed.size by omega]
      · rw [if_neg hj]
        simp only [Array.getD_eq_getD_getElem?]
        rw [Array.getElem?_setIfInBounds_ne (Ne.symm hj)]
    rw [hup] at hst
    unfold wpOp
    simp only [ho]
    split
    · rename_i hw
      rw [if_pos hw] at hst
      exact .inl (Oper.wp_mono (fun a w h => ⟨by simpa using hsz, h⟩) hst)
    · rename_i hw
      rw [if_neg hw] at hst
      exact ⟨by simpa using hsz, hst⟩
  · intro listed a' w' ⟨hsz, hI⟩ hr
    exact hend _ a' w' (fun i hi => forward_all hf hsz hr (i + 1) i (by omega) hi) hI
  · unfold unlisted
    simp [Array.toList_replicate]
  · have := h0 a hF
    have e : (fun i => (Array.replicate l.toArray.size false).getD i false) = fun _ => false := by
      funext i
      simp only [Array.getD_eq_getD_getElem?, Array.getElem?_replicate]
      split <;> rfl
    rw [e]
    exact this
end
section
variable {a : Act}
theorem eval_put_same {d : Tmp} {v : Value} (h : d < a.tmps.size) : (a.put (some d) v).eval (.tmp d) = v := by
  simp [Act.put, Act.eval, h]
theorem eval_put_ne {d k : Tmp} {v : Value} (h : d ≠ k) : (a.put (some d) v).eval (.tmp k) = a.eval (.tmp k) := by
  simp [Act.put, Act.eval, h]
/-- The slots 'ks' alone may have turned. -/
structure Same (a0 : Act) (ks : List Nat) (a : Act) : Prop where
  df : a.defers = a0.defers
  sz : a.tmps.size = a0.tmps.size
  ev : ∀ k, k ∉ ks → a.eval (.tmp k) = a0.eval (.tmp k)
theorem Same.refl (a0 : Act) (ks : List Nat) : Same a0 ks a0 := ⟨rfl, rfl, fun _ _ => rfl⟩
theorem Same.put {a0 : Act} {ks : List Nat} (h : Same a0 ks a) {d : Nat} (hd : d ∈ ks) (v : Value) : Same a0 ks (a.put (some d) v) :=
  ⟨h.df, by simp only [Act.put, Array.size_setIfInBounds]; exact h.sz, fun k hk => (eval_put_ne (fun e => hk (by rw [← e]; exact hd))).trans (h.ev k hk)⟩
theorem Same.put_none {a0 : Act} {ks : List Nat} (h : Same a0 ks a) (v : Value) : Same a0 ks (a.put none v) := h
theorem foldl_put_size : ∀ (ks : List Nat) (a0 : Act) (f : Nat → Value), (ks.foldl (fun b k => b.put (some k) (f k)) a0).tmps.size = a0.tmps.size ∧ (ks.foldl (fun b k => b.put (some k) (f k)) a0).defers = a0.defers
  | [], _, _ => ⟨rfl, rfl⟩
  | k :: ks, a0, f => by
    obtain ⟨h1, h2⟩ := foldl_put_size ks (a0.put (some k) (f k)) f
    exact ⟨by rw [List.foldl_cons, h1]; simp [Act.put], by rw [List.foldl_cons, h2]; rfl⟩
theorem foldl_put_eval : ∀ (ks : List Nat) (a0 : Act) (f : Nat → Value) (j : Nat), j < a0.tmps.size → (ks.foldl (fun b k => b.put (some k) (f k)) a0).eval (.tmp j) = if j ∈ ks then f j else a0.eval (.tmp j)
  | [], _, _, _, _ => by simp
  | k :: ks, a0, f, j, hj => by
    rw [List.foldl_cons, foldl_put_eval ks _ f j (by simpa [Act.put] using hj)]
    by_cases h : j ∈ ks
    · rw [if_pos h, if_pos (by simp [h])]
    · rw [if_neg h]
      by_cases e : j = k
      · subst e
        rw [if_pos (by simp)]
        exact eval_put_same hj
      · rw [if_neg (by simp [e, h])]
        exact eval_put_ne (Ne.symm e)
theorem Same.eq {a0 : Act} {ks : List Nat} (h : Same a0 ks a) : a = ks.foldl (fun b k => b.put (some k) (a.eval (.tmp k))) a0 := by
  obtain ⟨h1, h2⟩ := foldl_put_size ks a0 (fun k => a.eval (.tmp k))
  have hev := foldl_put_eval ks a0 (fun k => a.eval (.tmp k))
  obtain ⟨b, hb⟩ : ∃ b, ks.foldl (fun b k => b.put (some k) (a.eval (.tmp k))) a0 = b := ⟨_, rfl⟩
  rw [hb] at h1 h2 hev ⊢
  obtain ⟨ta, da⟩ := a
  obtain ⟨tb, db⟩ := b
  simp only at h1 h2
  have hdf := h.df
  have hsz := h.sz
  simp only at hdf hsz
  have et : ta = tb := by
    apply Array.ext
    · omega
    · intro i hi hi'
      have e := hev i (by omega)
      have e2 : (Act.mk ta da).eval (.tmp i) = (Act.mk tb db).eval (.tmp i) := by
        rw [e]
        by_cases hk : i ∈ ks
        · rw [if_pos hk]
        · rw [if_neg hk]; exact h.ev i hk
      simpa [Act.eval, hi, hi'] using e2
  rw [et, hdf, h2]
end
end Go.Proofs.YtibdcnmaodmghaaGreatDoor
end
