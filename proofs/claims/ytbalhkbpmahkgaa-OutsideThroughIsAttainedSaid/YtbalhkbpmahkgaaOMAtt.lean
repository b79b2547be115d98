/- The law OutsideThroughIsAttained. -/
import Derived.Test.YtbalhkbpmahkgaaOMi
import Derived.StillTailTactics
import Derived.Test.YtbalhkbpmahkgaaOMh
import Derived.Deep.DeepCutAuto
import Derived.Test.YtbalhkbpmahkgaaOMd
namespace Go.Proofs.Ytbalhkbpmahkgaa
open Go.RowKit

theorem sumS_mem {l : List Vl} (h : ∀ v ∈ l, Ordy v) {v : Vl} (hv : v ∈ l) : v.s ≤ sumS l := by
  induction l with
  | nil => simp at hv
  | cons u l ih =>
    have hu := h u (by simp)
    have hp := sums_pos (l := l) (fun x hx => h x (by simp [hx]))
    unfold Ordy at hu
    have e : sumS (u :: l) = u.s + sumS l := by simp [sumS]
    rw [e]
    rcases List.mem_cons.1 hv with rfl | hv
    · omega
    · have := ih (fun x hx => h x (by simp [hx])) hv
      omega
/-- The chosen hyperedge of a node with a finite value; its tails have finite values of smaller sizes. -/
theorem cho_fin {es : List Ed} {U : Nat → Vl} {N i : Nat} (hs : Sol es U) (hes : ∀ e ∈ es, e.Ok N) (hz : ∀ i, (U i).s ≤ 1000) (hf : (U i).c < 1099511627776) :
    ∃ (k : Nat) (e : Ed), cho U es i = (k : Int) ∧ es[k]? = some e ∧ e.hd = (i : Int) ∧ comb e.cost (tlv U e.ts) = U i ∧ 1 ≤ (U i).s ∧ ∀ t ∈ e.ts, (U t.toNat).c < 1099511627776 ∧ (U t.toNat).s < (U i).s := by
  obtain ⟨e, he, h1, h2⟩ := hs.attained hes hf
  obtain ⟨k, hk⟩ := List.getElem?_of_mem he
  obtain ⟨j, e', hj, he', h3, h4, _⟩ := cho_pos (cho_le hk h1 h2).1
  have hok := hes e' (List.mem_of_getElem? he')
  have hev : ev U e' = U i := by rw [att_iff] at h4; rw [h4.2, h3]
  have hcf : (ev U e').c < 1099511627776 := by rw [hev]; exact hf
  have hcl := comb_closed (l := tlv U e'.ts) hok.cost.1 (tlv_ord hs.nrm _)
  have hev2 : comb e'.cost (tlv U e'.ts) = U i := hev
  rw [hev2] at hcl
  have hzi := hz i
  have hsp := sums_pos (tlv_ord hs.nrm e'.ts)
  have hs1 : (U i).s = 1 + sumS (tlv U e'.ts) := by
    split at hcl
    · rw [hcl] at hzi ⊢
      simp only at hzi ⊢
      omega
    · rw [hcl] at hf
      exact absurd hf (by decide)
  refine ⟨j, e', hj, he', by have := hok.hd; omega, hev2, by omega, fun t ht => ⟨ev_fin hs.nrm hok.cost.1 hcf ht, ?_⟩⟩
  have hm := sumS_mem (tlv_ord hs.nrm e'.ts) (List.mem_map_of_mem (f := fun t : Int => U t.toNat) ht)
  omega
/-- As Dc, with all rows of kids from lo to hi. -/
def DcR (es : List Ed) (w : World) (lo hi : Nat) : Nat → Int → Value → Value → Vl → Prop
  | 0, _, _, _, _ => False
  | n + 1, root, v0, v1, x => ∃ (j : Nat) (e : Ed) (A : Option Addr) (c : Nat) (l : List (Value × Value)) (xs : List Vl), v0 = .int .i64 j ∧ v1 = .slice A e.ts.length c ∧ l.length = e.ts.length ∧ Reads w hi 2 A e.ts.length (prs l) ∧ (∀ b off, A = some ⟨b, off, none⟩ → 0 < e.ts.length → lo ≤ b) ∧ es[j]? = some e ∧ e.hd = root ∧ xs.length = e.ts.length ∧ x = comb e.cost xs ∧
      ∀ (i : Nat) (p : Value × Value) (t : Int) (y : Vl), l[i]? = some p → e.ts[i]? = some t → xs[i]? = some y → DcR es w lo hi n t p.1 p.2 y
section
variable {es : List Ed} {w w' : World} {lo hi lo' hi' : Nat}
theorem DcR.dc : ∀ {n : Nat} {root : Int} {v0 v1 : Value} {x : Vl}, DcR es w lo hi n root v0 v1 x → Dc es w hi n root v0 v1 x
  | 0, _, _, _, _, h => h.elim
  | n + 1, root, v0, v1, x, ⟨j, e, A, c, l, xs, h0, h1, h2, h3, _, h4, h5, h6, h7, h8⟩ => ⟨j, e, A, c, l, xs, h0, h1, h2, h3, h4, h5, h6, h7, fun i p t y a b c => DcR.dc (h8 i p t y a b c)⟩
theorem DcR.mono (hl : lo' ≤ lo) (hh : hi ≤ hi') : ∀ {n : Nat} {root : Int} {v0 v1 : Value} {x : Vl}, DcR es w lo hi n root v0 v1 x → DcR es w lo' hi' n root v0 v1 x
  | 0, _, _, _, _, h => h.elim
  | n + 1, root, v0, v1, x, ⟨j, e, A, c, l, xs, h0, h1, h2, h3, hb, h4, h5, h6, h7, h8⟩ => ⟨j, e, A, c, l, xs, h0, h1, h2, h3.more hh, fun b off a d => Nat.le_trans hl (hb b off a d), h4, h5, h6, h7, fun i p t y a b c => DcR.mono hl hh (h8 i p t y a b c)⟩
theorem DcR.touch {F : Nat → Prop} (ht : Touch F w w') (hh : hi ≤ w.heap.size) (hF : ∀ k, lo ≤ k → k < hi → ¬ F k) : ∀ {n : Nat} {root : Int} {v0 v1 : Value} {x : Vl}, DcR es w lo hi n root v0 v1 x → DcR es w' lo hi n root v0 v1 x
  | 0, _, _, _, _, h => h.elim
  | n + 1, root, v0, v1, x, ⟨j, e, A, c, l, xs, h0, h1, h2, h3, hb, h4, h5, h6, h7, h8⟩ => ⟨j, e, A, c, l, xs, h0, h1, h2, ⟨h3.1, fun hn => by
    obtain ⟨b, off, hA, hbb, hc⟩ := h3.2 hn
    have hlo := hb b off hA hn
    refine ⟨b, off, hA, hbb, fun i u hu => ?_⟩
    rw [World.cell?_of_block (ht.block b (by omega) (hF b hlo hbb))]
    exact hc i u hu⟩, hb, h4, h5, h6, h7, fun i p t y a b c => DcR.touch ht hh hF (h8 i p t y a b c)⟩
end
/-- The kids so far: each in a stretch of its own, away from the row that holds them. -/
def FK (es : List Ed) (U : Nat → Vl) (base n : Nat) (ts : List Int) (w : World) (row : Option Nat) (l : List (Value × Value)) : Prop := ∀ (q : Nat) (p : Value × Value) (t : Int), l[q]? = some p → ts[q]? = some t → ∃ lo hi, base ≤ lo ∧ hi ≤ w.heap.size ∧ (∀ z, row = some z → z < lo ∨ hi ≤ z) ∧ DcR es w lo hi n t p.1 p.2 (U t.toNat)
section
variable {es : List Ed} {U : Nat → Vl} {base n : Nat} {ts : List Int} {w w' : World} {row row' : Option Nat} {l : List (Value × Value)}
theorem FK.nil : FK es U base n ts w row [] := fun q p t hq => by simp at hq
theorem FK.below (h : FK es U base n ts w row l) (hb : Below w.heap.size w w') : FK es U base n ts w' row l := fun q p t hq ht => by
  obtain ⟨lo, hi, h1, h2, h3, h4⟩ := h q p t hq ht
  exact ⟨lo, hi, h1, Nat.le_trans h2 hb.size, h3, h4.touch (F := fun _ => False) (Touch.of_below hb) h2 (fun _ _ _ h => h)⟩
theorem FK.grown (h : FK es U base n ts w row l) (hg : w.grownBy w' row) (hr : ∀ z, row' = some z → row = some z ∨ w.heap.size ≤ z) : FK es U base n ts w' row' l := fun q p t hq ht => by
  obtain ⟨lo, hi, h1, h2, h3, h4⟩ := h q p t hq ht
  refine ⟨lo, hi, h1, Nat.le_trans h2 hg.size, fun z hz => ?_, h4.touch (F := fun k => row = some k) ((Touch.refl _ w).grown hg (fun k hk => .inl hk)) h2 (fun k hk1 hk2 hk3 => ?_)⟩
  · rcases hr z hz with h5 | h5
    · exact h3 z h5
    · omega
  · rcases h3 k hk3 with h5 | h5 <;> omega
theorem FK.store (h : FK es U base n ts w row l) {p : Addr} (hp : p.block < base) (x : Value) : FK es U base n ts (w.setCell p x) row l := fun q p' t hq ht => by
  obtain ⟨lo, hi, h1, h2, h3, h4⟩ := h q p' t hq ht
  have hT : Touch (fun k => k = p.block) w (w.setCell p x) := (Touch.refl (fun k => k = p.block) w).setCell (.inl rfl) x
  exact ⟨lo, hi, h1, Nat.le_trans h2 hT.size, h3, h4.touch hT h2 (fun k hk1 _ hk3 => by omega)⟩
theorem FK.snoc (h : FK es U base n ts w row l) {p : Value × Value} {lo hi : Nat} (h1 : base ≤ lo) (h2 : hi ≤ w.heap.size) (h3 : ∀ z, row = some z → z < lo ∨ hi ≤ z) (h4 : ∀ t, ts[l.length]? = some t → DcR es w lo hi n t p.1 p.2 (U t.toNat)) : FK es U base n ts w row (l ++ [p]) := fun q p' t hq ht => by
  rcases Nat.lt_or_ge q l.length with hl | hl
  · rw [List.getElem?_append_left hl] at hq
    exact h q p' t hq ht
  · rw [List.getElem?_append_right hl] at hq
    have hq2 := (List.getElem?_eq_some_iff.1 hq).1
    have hq3 : q = l.length := by simp at hq2; omega
    subst hq3
    simp at hq
    subst hq
    exact ⟨lo, hi, h1, h2, h3, h4 t ht⟩
end
theorem prs_append (l m : List (Value × Value)) : prs (l ++ m) = prs l ++ prs m := by simp [prs]
theorem infoDv : (Try.prog.info? 33).map (fun i => (i.zero, i.size, i.bytes)) = some (some (.agg #[.int .i64 0, .slice none 0 0]), 2, 32) := by kernel_rfl
abbrev ldV (p : Operand) : Op := .load 31 p
theorem ldV_eq (p : Operand) : Op.load 31 p = ldV p := rfl
theorem results_dv {fn : Func} {p : Tmp} (h : fn.results = #[.cell p 33]) {tmps : Array Value} {b o : Nat} (hp : tmps.getD p undef = .pointer (some ⟨b, o, none⟩)) {w : World} {x y : Value}
    (h0 : w.cell? ⟨b, o, none⟩ = some x) (h1 : w.cell? ⟨b, o + 1, none⟩ = some y) : (results fn tmps).run Try.prog w = .ok (.agg #[x, y]) w := by
  rw [results_cell h tmps _ hp]
  simp [go_sem, h0, h1]
set_option maxRecDepth 100000 in
set_option maxHeartbeats 8000000 in
theorem follow_any (N M ce : Nat) (E : Option Addr) (es : List Ed) (HMM : Hid (es.length = M)) (HOK : Hid (∀ e ∈ es, e.Ok N)) (hM : M ≤ 60) (w0 : World) (B0 : Nat) (hE : HG w0 B0 E M es) (hB : B0 ≤ w0.heap.size) (U : Nat → Vl) (HS : Hid (Sol es U)) (HSZ : Hid (∀ i, (U i).s ≤ 1000)) (ea : Nat) : ∀ (n : Nat) (w : World) (v : Nat), (U v).s ≤ n → v < N → (U v).c < 1099511627776 → Below B0 w0 w → Blk w ea 3 (ints (chs U es N)).toArray →
    Calls Try.prog 36 #[.agg #[.int .i64 N, .slice E M ce], .slice (some ⟨ea, 0, none⟩) N N, .int .i64 v] w fun e w' => ∃ (k K c : Nat) (A : Option Addr), e = .returned (.agg #[.int .i64 k, .slice A K c]) ∧ DcR es w' w.heap.size w'.heap.size (n + 1) v (.int .i64 k) (.slice A K c) (U v) ∧ Below w.heap.size w w' := by
  have HE := Lib.hid hE
  have HBB := Lib.hid hB
  clear hE hB
  intro n
  induction n with
  | zero =>
    intro w v hs _ hf _ _
    obtain ⟨_, _, _, _, _, _, h1, _⟩ := cho_fin HS.out HOK.out HSZ.out hf
    omega
  | succ n ih =>
    intro w v hs hvN hf hw0 hea
    have HW0 := Lib.hid hw0
    have HZ := Lib.hid (Nat.le_trans HBB.out hw0.size)
    have HIH := Lib.hid ih
    have HEA := Lib.hid hea
    obtain ⟨k, e, hk, he, hhd, hcomb, _, hkids⟩ := cho_fin HS.out HOK.out HSZ.out hf
    have HKIDS : Hid (∀ t ∈ e.ts, (U t.toNat).c < 1099511627776 ∧ (U t.toNat).s ≤ n) := fun t ht => by have := hkids t ht; exact ⟨this.1, by omega⟩
    have hoke := HOK.out e (List.mem_of_getElem? he)
    have HOKE := Lib.hid hoke
    have HEk := Lib.hid (And.intro he (And.intro hhd hcomb))
    have hkM : k < M := by have := (List.getElem?_eq_some_iff.1 he).1; have := HMM.out; omega
    have x0 := hea.gint (k := v) (x := (k : Int)) (by rw [chs_at hvN, hk])
    obtain ⟨T, hT⟩ : ∃ T, e.ts.length = T := ⟨_, rfl⟩
    have HTT := Lib.hid hT
    have hT4 : T ≤ 4 := by rw [← hT]; exact hoke.few
    obtain ⟨i0, hi0, hz0, hz1, hz2⟩ := info_parts infoDv
    have HCK := Lib.hid hk
    clear ih hs hf hw0 hea hk hhd hcomb hkids hoke hT he
    go_enter Try.func36, Try.ntmps36
    go_upto_region 1 with fail
    obtain ⟨w1, hw1⟩ : ∃ w1, (w.alloc (.cells #[.int .i64 N, .slice E M ce] 24)).alloc (.cells #[.int .i64 0, .slice none 0 0] 33) = w1 := ⟨_, rfl⟩
    obtain ⟨bh, hbh⟩ : ∃ bh, w.heap.size = bh := ⟨_, rfl⟩
    have HK0 : Hid (Blk w1 bh 24 #[.int .i64 N, .slice E M ce]) := by rw [← hw1]; exact (Blk.new' w _ _ hbh).alloc _
    have HKR : Hid (Blk w1 (bh + 1) 33 #[.int .i64 0, .slice none 0 0]) := by rw [← hw1]; exact Blk.new' _ _ _ (by simp; omega)
    have HB1 : Hid (Below w.heap.size w w1) := by rw [← hw1]; exact ((Below.refl _ _).alloc (Nat.le_refl _) _).alloc (by simp) _
    have HS1 : Hid (w1.heap.size = bh + 2) := by rw [← hw1, ← hbh]; exact Lib.hid (by simp)
    have HEA1 := Lib.hid (HEA.out.below HB1.out HEA.out.lt)
    have HEAL : Hid (ea < bh) := by rw [← hbh]; exact HEA.out.lt
    have HBH := Lib.hid hbh
    try rw [hw1]
    try rw [hbh]
    clear hw1 hbh x0
    have x0 := HEA1.out.gint (k := v) (x := (k : Int)) (by rw [chs_at hvN, HCK.out])
    go_upto_region 2 with fail
    obtain ⟨w2, hw2⟩ : ∃ w2, w1.alloc (.cells #[.int .i64 k, .slice none 0 0] 33) = w2 := ⟨_, rfl⟩
    have hsz1 := HS1.out
    have hx2 : Below w1.heap.size w1 w2 := by rw [← hw2]; exact (Below.refl _ _).alloc (Nat.le_refl _) _
    have HKD2 : Hid (Blk w2 (bh + 2) 33 #[.int .i64 k, .slice none 0 0]) := by rw [← hw2]; exact Blk.new' w1 _ _ hsz1
    have HK02 := Lib.hid (HK0.out.below hx2 HK0.out.lt)
    have HKR2 := Lib.hid (HKR.out.below hx2 HKR.out.lt)
    have HEA2 := Lib.hid (HEA1.out.below hx2 HEA1.out.lt)
    have HB2 : Hid (Below w.heap.size w w2) := HB1.out.trans (hx2.mono HB1.out.size)
    have HS2 : Hid (w2.heap.size = bh + 3) := by rw [← hw2]; exact Lib.hid (by simp; omega)
    try rw [hw2]
    try rw [hsz1]
    clear hw2 hx2 x0 HK0 HKR HEA1 HB1 hsz1
    have a1 : w2.cell? ⟨bh, 1, none⟩ = some (.slice E M ce) := HK02.out.cell 1
    have d0 : w2.cell? ⟨bh + 2, 0, none⟩ = some (.int .i64 k) := HKD2.out.cell 0
    obtain ⟨b', off, e', hE', hb', he', p0, p1, p2, p3, p4, hRt⟩ := (HE.out.below (HW0.out.trans (HB2.out.mono HZ.out))).at_ hkM
    obtain rfl : e = e' := by rw [HEk.out.1] at he'; injection he'
    obtain ⟨eA, heA⟩ : ∃ eA, e.A = eA := ⟨_, rfl⟩
    rw [HTT.out, heA] at p1
    have HRT : Hid (Reads w0 B0 1 eA T (ints e.ts)) := by rw [← HTT.out, ← heA]; exact HE.out.2 e (List.mem_of_getElem? HEk.out.1)
    rw [hE'] at a1
    clear hE' he' hRt p0 p2 p3 p4 hb' heA
    go_wp2_with fail
    clear a1 d0 p1
    go_loopw [9] (fun x wr => ∃ i : Nat, i ≤ T ∧ x = .int .i64 i ∧ ∃ (u : Value) (l : List (Value × Value)), Hid (l.length = i) ∧ Hid (Blk wr (bh + 2) 33 #[.int .i64 k, u]) ∧ Hid (wr.ownsRow (bh + 3) 33 2 u i (prs l)) ∧ Hid (FK es U (bh + 3) (n + 1) e.ts wr u.ownBlock l) ∧ Hid (Below (bh + 2) w2 wr)) (fun x _ => T - (intOf x).toNat)
    case atStart => exact ⟨0, Nat.zero_le _, rfl, _, [], rfl, HKD2, World.ownsRow_nil _ _ _ _, FK.nil, Below.refl _ _⟩
    case round =>
      obtain ⟨i, hi, rfl, u, l, HLL, HKD, HO, HF, HX⟩ := hrel
      have hsz2 := HS2.out
      have hbh := HBH.out
      have hszr : bh + 3 ≤ wr.heap.size := by have := HX.out.size; omega
      have HSZ := Lib.hid hszr
      have HB : Hid (Below w.heap.size w wr) := HB2.out.trans (HX.out.mono (by omega))
      have HB0r : Hid (Below B0 w0 wr) := HW0.out.trans (HB.out.mono HZ.out)
      by_cases hlt : i < T
      case neg =>
        have hltD : decide (i < T) = false := by simp [hlt]
        obtain rfl : T = i := by omega
        obtain ⟨A', c', rfl, _, _⟩ := own_form HO.out
        have d0 : wr.cell? ⟨bh + 2, 0, none⟩ = some (.int .i64 k) := HKD.out.cell 0
        have d1 : wr.cell? ⟨bh + 2, 1, none⟩ = some (.slice A' T c') := HKD.out.cell 1
        have HKRr := Lib.hid (HKR2.out.below HX.out (by omega))
        have y0 := HKRr.out.frozen 0
        have y1 := HKRr.out.frozen 1
        have x0 := HKRr.out.cell 0
        have x1 := HKRr.out.cell 1
        simp at x0 x1
        have HRf : Hid (Blk ((wr.setCell ⟨bh + 1, 0, none⟩ (.int .i64 k)).setCell ⟨bh + 1, 1, none⟩ (.slice A' T c')) (bh + 1) 33 #[.int .i64 k, .slice A' T c']) := by
          exact HKRr.out.set2 _ _
        have HBf : Hid (Below w.heap.size w ((wr.setCell ⟨bh + 1, 0, none⟩ (.int .i64 k)).setCell ⟨bh + 1, 1, none⟩ (.slice A' T c'))) := (HB.out.setCell (p := ⟨bh + 1, 0, none⟩) (by show w.heap.size ≤ bh + 1; omega) _).setCell (p := ⟨bh + 1, 1, none⟩) (by show w.heap.size ≤ bh + 1; omega) _
        have HFf : Hid (FK es U (bh + 3) (n + 1) e.ts ((wr.setCell ⟨bh + 1, 0, none⟩ (.int .i64 k)).setCell ⟨bh + 1, 1, none⟩ (.slice A' T c')) (Value.slice A' T c').ownBlock l) := (HF.out.store (p := ⟨bh + 1, 0, none⟩) (by show bh + 1 < bh + 3; omega) _).store (p := ⟨bh + 1, 1, none⟩) (by show bh + 1 < bh + 3; omega) _
        have HOf : Hid (((wr.setCell ⟨bh + 1, 0, none⟩ (.int .i64 k)).setCell ⟨bh + 1, 1, none⟩ (.slice A' T c')).ownsRow (bh + 3) 33 2 (.slice A' T c') T (prs l)) := by
          have hT1 : Touch (fun z => z = bh + 1) wr ((wr.setCell ⟨bh + 1, 0, none⟩ (.int .i64 k)).setCell ⟨bh + 1, 1, none⟩ (.slice A' T c')) := ((Touch.refl (fun z => z = bh + 1) wr).setCell (p := ⟨bh + 1, 0, none⟩) (.inl rfl) _).setCell (p := ⟨bh + 1, 1, none⟩) (.inl rfl) _
          exact own_touch HO.out hT1 (fun z hz e => by have := own_ge HO.out hz; omega)
        clear hsz2
        go_wp2_with fail
        refine bodyPost_ret (results_dv rfl rfl (HRf.out.cell 0) (HRf.out.cell 1)) rfl ?_
        refine ⟨k, T, c', A', rfl, ⟨k, e, A', c', l, tlv U e.ts, rfl, by rw [HTT.out], by rw [HLL.out, HTT.out], by rw [HTT.out]; exact Reads.of_own HOf.out, fun b off hA hn => ?_, HEk.out.1, HEk.out.2.1, by simp [tlv], HEk.out.2.2.symm, fun q p t y hq ht hy => ?_⟩, HBf.out⟩
        · have := own_ge HOf.out (k := b) (by rw [hA]; simp [Value.ownBlock])
          omega
        · obtain ⟨lo, hi', g1, g2, g3, g4⟩ := HFf.out q p t hq ht
          have hyt : y = U t.toNat := by
            unfold tlv at hy
            rw [List.getElem?_map, ht] at hy
            injection hy with hy
            exact hy.symm
          rw [hyt]
          exact g4.mono (by omega) g2
      case pos =>
        have hltD : decide (i < T) = true := by simp [hlt]
        obtain ⟨bt, ot, hA, hbt, q0⟩ := (HRT.out.below HB0r.out).int_at hlt
        obtain ⟨t', hti⟩ : ∃ t', e.ts[i]? = some t' := ⟨_, List.getElem?_eq_getElem (by have := HTT.out; omega)⟩
        rw [hti] at q0
        simp only [Option.getD_some] at q0
        obtain ⟨t0, t1⟩ := HOKE.out.ts t' (List.mem_of_getElem? hti)
        obtain ⟨t, rfl⟩ := Int.eq_ofNat_of_zero_le t0
        have htN : t < N := by omega
        obtain ⟨g1, g2⟩ := HKIDS.out (t : Int) (List.mem_of_getElem? hti)
        rw [Int.toNat_natCast] at g1 g2
        have HTI := Lib.hid hti
        have HEAr : Hid (Blk wr ea 3 (ints (chs U es N)).toArray) := HEA2.out.below HX.out (by have := HEAL.out; omega)
        have HC : Hid (∀ w9, Below wr.heap.size wr w9 → Calls Try.prog 36 #[.agg #[.int .i64 N, .slice E M ce], .slice (some ⟨ea, 0, none⟩) N N, .int .i64 (t : Nat)] w9 fun e w' => ∃ (k K c : Nat) (A : Option Addr), e = .returned (.agg #[.int .i64 k, .slice A K c]) ∧ DcR es w' w9.heap.size w'.heap.size (n + 1) (t : Nat) (.int .i64 k) (.slice A K c) (U t) ∧ Below w9.heap.size w9 w') := fun w9 h9 =>
          HIH.out w9 t g2 htN g1 (HB0r.out.trans (h9.mono (Nat.le_trans HZ.out HB.out.size))) (HEAr.out.below h9 HEAr.out.lt)
        have HBT : Hid (bt < bh + 2) := by have h1 := HZ.out; show bt < bh + 2; omega
        have H9 : Hid (∀ w9, Below (bh + 2) wr w9 → w9.cell? ⟨bh, 0, none⟩ = some (.int .i64 N) ∧ w9.cell? ⟨bh, 1, none⟩ = some (.slice E M ce) ∧ w9.cell? ⟨bt, ot + i, none⟩ = some (.int .i64 (t : Nat))) := fun w9 h => by
          have Ka := (HK02.out.below HX.out (by omega)).below h (by omega)
          exact ⟨Ka.cell 0, Ka.cell 1, (h.cell (p := ⟨bt, ot + i, none⟩) HBT.out).trans q0⟩
        have d1 : wr.cell? ⟨bh + 2, 1, none⟩ = some u := HKD.out.cell 1
        subst hA
        have HLEN := Lib.hid (show l.length = i from HLL.out)
        clear hti t0 t1 q0 hbt g1 g2 hsz2 hbh
        go_upto_region 6 with fail
        have B8 : Below (bh + 2) wr wr.drew := (Below.refl _ _).drew
        have B8w : Below wr.heap.size wr wr.drew := (Below.refl _ _).drew
        have d1d : wr.drew.cell? ⟨bh + 2, 1, none⟩ = some u := d1
        simp only [ldV_eq]
        go_region_held3 (fun w9 => w9.cell? ⟨bh, 0, none⟩ = some (.int .i64 N) ∧ w9.cell? ⟨bh, 1, none⟩ = some (.slice E M ce) ∧ w9.cell? ⟨bt, ot + i, none⟩ = some (.int .i64 (t : Nat)))
          (first | exact H9.out _ B8 | exact H9.out _ X5 | exact H9.out _ X5a | exact H9.out _ X9 | exact H9.out _ (X9.setCell (p := ⟨bh + 2, 1, none⟩) (Nat.le_refl _) _))
          (first
            | (go_at_call 36; (with_reducible refine (HC.out _ B8w).mono ?_); rintro e5 w5 ⟨k2, K2, c2, A2, rfl, hdc5, hb5⟩; have hb5w : Below wr.heap.size wr w5 := B8w.trans (hb5.mono (Nat.le_refl _)); have X5 : Below (bh + 2) wr w5 := hb5w.mono (by have := HSZ.out; omega); have hz5 : bh + 3 ≤ w5.heap.size := Nat.le_trans HSZ.out hb5w.size; have X5a : Below (bh + 2) wr (w5.alloc (.cells #[.int .i64 (k2 : Nat), .slice A2 K2 c2] 33)) := X5.alloc (by omega) _; have HDC5 : Hid (DcR es w5 wr.heap.size w5.heap.size (n + 1) (t : Nat) (.int .i64 k2) (.slice A2 K2 c2) (U t)) := hdc5; have HO5 : Hid (w5.ownsRow (bh + 3) 33 2 u i (prs l)) := own_below HO.out hb5w; have HO5a : Hid ((w5.alloc (.cells #[.int .i64 (k2 : Nat), .slice A2 K2 c2] 33)).ownsRow (bh + 3) 33 2 u i (prs l)) := HO5.out.alloc _; have HKD5 := Lib.hid (HKD.out.below hb5w HKD.out.lt); have d15 : w5.cell? ⟨bh + 2, 1, none⟩ = some u := HKD5.out.cell 1; have d15a : (w5.alloc (.cells #[.int .i64 (k2 : Nat), .slice A2 K2 c2] 33)).cell? ⟨bh + 2, 1, none⟩ = some u := (HKD5.out.alloc (.cells #[.int .i64 (k2 : Nat), .slice A2 K2 c2] 33)).cell 1; have HF5 : Hid (FK es U (bh + 3) (n + 1) e.ts w5 u.ownBlock (l ++ [(.int .i64 (k2 : Nat), .slice A2 K2 c2)])) := (HF.out.below hb5w).snoc HSZ.out (Nat.le_refl _) (fun z hz => .inl (own_lt HO.out hz)) (fun t' ht' => (by rw [HLEN.out, HTI.out] at ht'; injection ht' with ht'; subst ht'; rw [Int.toNat_natCast]; exact HDC5.out)); have NEWS : Hid (∀ q v, ([.int .i64 (k2 : Nat), .slice A2 K2 c2] : List Value)[q]? = some v → (w5.alloc (.cells #[.int .i64 (k2 : Nat), .slice A2 K2 c2] 33)).cell? ((⟨w5.heap.size, 0, none⟩ : Addr).add q) = some v) := (fun q v hv => (by rw [Addr.add_lit, Nat.zero_add, (Blk.new' w5 33 #[.int .i64 (k2 : Nat), .slice A2 K2 c2] rfl).cell]; simpa using hv)); clear hdc5 hb5)
            | (refine step_append_lies _ (by rfl) _ _ 31 (by rfl) (bh + 3) 33 i0 (.agg #[.int .i64 0, .slice none 0 0]) 2 32 Try.underlying31 hi0 hz0 hz1 hz2 rfl (by decide) u i (prs l) (by rfl) HO5a.out ⟨w5.heap.size, 0, none⟩ 1 1 [.int .i64 (k2 : Nat), .slice A2 K2 c2] (by rfl) (by rfl) NEWS.out (by simp [Value.oneCell']) (by omega) (by unfold maxLen; omega) (by omega) (Nat.le_trans hz5 (by simp)) (w5.heap.size + 1) (by simp) ?_; intro gg cap w9 hown9 hgrow hat hlt9; have X9 : Below (bh + 2) wr w9 := X5a.grown hgrow (by simp; omega) (fun z hz => (by have := own_ge HO5a.out hz; omega)); have HO9 : Hid (w9.ownsRow (bh + 3) 33 2 (.slice (some ⟨gg, 0, none⟩) (i + 1) cap) (i + 1) (prs (l ++ [(.int .i64 (k2 : Nat), .slice A2 K2 c2)]))) := (by rw [prs_append]; exact hown9); have HKD9 : Hid (Blk w9 (bh + 2) 33 #[.int .i64 k, u]) := (HKD5.out.alloc (.cells #[.int .i64 (k2 : Nat), .slice A2 K2 c2] 33)).grown hgrow (fun e => (by have := own_ge HO5a.out e.symm; omega)); have HF9 : Hid (FK es U (bh + 3) (n + 1) e.ts w9 (Value.slice (some ⟨gg, 0, none⟩) (i + 1) cap).ownBlock (l ++ [(.int .i64 (k2 : Nat), .slice A2 K2 c2)])) := (HF5.out.below ((Below.refl _ _).alloc (Nat.le_refl _) (.cells #[.int .i64 (k2 : Nat), .slice A2 K2 c2] 33))).grown hgrow (fun z hz => (by have h2 : gg = z := (by simpa [Value.ownBlock] using hz); subst h2; rcases hat with h | h; exact .inl h; exact .inr (by simp; omega))); have d19 : w9.cell? ⟨bh + 2, 1, none⟩ = some u := HKD9.out.cell 1; have z19 := HKD9.out.frozen 1; clear hown9 hgrow hat hlt9))
        all_goals
          have HKDf : Hid (Blk (w9.setCell ⟨bh + 2, 1, none⟩ (.slice (some ⟨gg, 0, none⟩) (i + 1) cap)) (bh + 2) 33 #[.int .i64 k, .slice (some ⟨gg, 0, none⟩) (i + 1) cap]) := by
            have h2 := HKD9.out.set_ 1 (.slice (some ⟨gg, 0, none⟩) (i + 1) cap)
            simp at h2
            exact h2
          have HOf : Hid ((w9.setCell ⟨bh + 2, 1, none⟩ (.slice (some ⟨gg, 0, none⟩) (i + 1) cap)).ownsRow (bh + 3) 33 2 (.slice (some ⟨gg, 0, none⟩) (i + 1) cap) (i + 1) (prs (l ++ [(.int .i64 (k2 : Nat), .slice A2 K2 c2)]))) := own_touch HO9.out ((Touch.refl (fun z => z = bh + 2) w9).setCell (p := ⟨bh + 2, 1, none⟩) (.inl rfl) _) (fun z hz e => by have := own_ge HO9.out hz; omega)
          have HFf : Hid (FK es U (bh + 3) (n + 1) e.ts (w9.setCell ⟨bh + 2, 1, none⟩ (.slice (some ⟨gg, 0, none⟩) (i + 1) cap)) (Value.slice (some ⟨gg, 0, none⟩) (i + 1) cap).ownBlock (l ++ [(.int .i64 (k2 : Nat), .slice A2 K2 c2)])) := HF9.out.store (p := ⟨bh + 2, 1, none⟩) (by show bh + 2 < bh + 3; omega) _
          have HXf : Hid (Below (bh + 2) w2 (w9.setCell ⟨bh + 2, 1, none⟩ (.slice (some ⟨gg, 0, none⟩) (i + 1) cap))) := HX.out.trans (X9.setCell (p := ⟨bh + 2, 1, none⟩) (Nat.le_refl _) _)
          have HLf : Hid ((l ++ [((.int .i64 (k2 : Nat), .slice A2 K2 c2) : Value × Value)]).length = i + 1) := by rw [List.length_append, HLEN.out]; exact Lib.hid rfl
          go_wp2_with fail
          go_roundw
          case rel => exact ⟨i + 1, by omega, by go_num, _, _, HLf, HKDf, HOf, HFf, HXf⟩
          case measure => simp [intOf]; omega
end Go.Proofs.Ytbalhkbpmahkgaa

namespace Go.Proofs.Ytbalhkbpmahkgaa
open Go.RowKit

theorem results_dvi {fn : Func} {p q : Tmp} (h : fn.results = #[.cell p 33, .tmp q]) {tmps : Array Value} {b o : Nat} (hp : tmps.getD p undef = .pointer (some ⟨b, o, none⟩)) {w : World} {x y v : Value}
    (h0 : w.cell? ⟨b, o, none⟩ = some x) (h1 : w.cell? ⟨b, o + 1, none⟩ = some y) (hv : tmps.getD q undef = v) : (results fn tmps).run Try.prog w = .ok (.tuple #[.agg #[x, y], v]) w := by
  rw [results_cell_tmp h, hp, hv]
  simp [go_sem, asAddr, h0, h1]
/-- What Best leaves. -/
def BestPost (w : World) (N : Nat) (es : List Ed) (root : Int) (e : Ending) (w' : World) : Prop :=
  ((∃ c : Int, (c = 1 ∨ c = 2 ∨ c = 6) ∧ e = .returned (.tuple #[.agg #[.int .i64 0, .slice none 0 0], .int .i64 c])) ∨
   (∃ (r k K c n : Nat) (A : Option Addr) (U : Nat → Vl), root = (r : Int) ∧ r < N ∧ e = .returned (.tuple #[.agg #[.int .i64 (k : Nat), .slice A K c], .int .i64 0]) ∧ Sol es U ∧ Dc es w' w'.heap.size n (r : Nat) (.int .i64 (k : Nat)) (.slice A K c) (U r))) ∧ Below w.heap.size w w'
set_option maxRecDepth 100000 in
set_option maxHeartbeats 4000000 in
theorem best_any (w : World) (N ce B : Nat) (E : Option Addr) (es : List Ed) (root : Int) (hE : HG w B E es.length es) (hB : B ≤ w.heap.size) (hes : ∀ e ∈ es, e.Ok N) (hN : N ≤ 30) (hM : es.length ≤ 60) (V0 : Nat → Vl) (hs0 : Sol es V0) (hz0 : ∀ i, (V0 i).s ≤ 1000) :
    Calls Try.prog 23 #[.agg #[.int .i64 N, .slice E es.length ce], .int .i64 root] w (BestPost w N es root) := by
  have HE := Lib.hid (hE.more hB)
  have HOK := Lib.hid hes
  have HS0 := Lib.hid (And.intro hs0 hz0)
  clear hE hes hs0 hz0
  obtain ⟨M, hMM⟩ : ∃ M, es.length = M := ⟨_, rfl⟩
  rw [hMM] at HE hM ⊢
  have HMM := Lib.hid hMM
  clear hMM
  go_enter Try.func23, Try.ntmps23
  go_wp2_with fail
  obtain ⟨w1, hw1⟩ : ∃ w1, (w.alloc (.cells #[.int .i64 N, .slice E M ce] 24)).alloc (.cells #[.int .i64 0, .slice none 0 0] 33) = w1 := ⟨_, rfl⟩
  obtain ⟨bh, hbh⟩ : ∃ bh, w.heap.size = bh := ⟨_, rfl⟩
  have HK1 : Hid (Blk w1 bh 24 #[.int .i64 N, .slice E M ce]) := by rw [← hw1]; exact (Blk.new' w _ _ hbh).alloc _
  have HD1 : Hid (Blk w1 (bh + 1) 33 #[.int .i64 0, .slice none 0 0]) := by rw [← hw1]; exact Blk.new' _ _ _ (by simp; omega)
  have HB1 : Hid (Below w.heap.size w w1) := by rw [← hw1]; exact ((Below.refl _ _).alloc (Nat.le_refl _) _).alloc (by simp) _
  have HBH : Hid (w.heap.size ≤ bh + 1) := by rw [hbh]; exact Lib.hid (by omega)
  try rw [hw1]
  try rw [hbh]
  clear hw1 hbh
  have hv := valid_any w1 N ce w.heap.size E es (by rw [HMM.out]; exact HE.out.below HB1.out) HB1.out.size (by rw [HMM.out]; omega) (fun e he => by have := (HOK.out e he).few; omega)
  rw [HMM.out] at hv
  refine hv.mono ?_
  rintro e w2 ⟨b, rfl, _, hbw⟩
  have HK2 := Lib.hid (HK1.out.below hbw HK1.out.lt)
  have HD2 := Lib.hid (HD1.out.below hbw HD1.out.lt)
  have HB2 : Hid (Below w.heap.size w w2) := HB1.out.trans (hbw.mono HB1.out.size)
  clear hv hbw HK1 HD1 HB1
  have y0 := HD2.out.frozen 0
  have y1 := HD2.out.frozen 1
  have x0 := HD2.out.cell 0
  have x1 := HD2.out.cell 1
  simp at x0 x1
  have r1 := HD2.out.set2 (.int .i64 0) (.slice none 0 0)
  have HBz : Hid (Below w.heap.size w ((w2.setCell ⟨bh + 1, 0, none⟩ (.int .i64 0)).setCell ⟨bh + 1, 1, none⟩ (.slice none 0 0))) := (HB2.out.setCell (p := ⟨bh + 1, 0, none⟩) HBH.out _).setCell (p := ⟨bh + 1, 1, none⟩) HBH.out _
  cases b with
  | false =>
    go_wp2_with fail
    refine bodyPost_ret (results_dvi rfl rfl (r1.cell 0) (r1.cell 1) rfl) rfl ?_
    exact ⟨.inl ⟨1, .inl rfl, rfl⟩, HBz.out⟩
  | true =>
    have c0 : w2.cell? ⟨bh, 0, none⟩ = some (.int .i64 N) := HK2.out.cell 0
    have c1 : w2.cell? ⟨bh, 1, none⟩ = some (.slice E M ce) := HK2.out.cell 1
    rcases root_ways N root with h1 | ⟨h1, h2⟩ | ⟨r, rfl, hr⟩
    case inl =>
      go_wp2_with fail
      refine bodyPost_ret (results_dvi rfl rfl (r1.cell 0) (r1.cell 1) rfl) rfl ?_
      exact ⟨.inl ⟨2, .inr (.inl rfl), rfl⟩, HBz.out⟩
    case inr.inl =>
      go_wp2_with fail
      refine bodyPost_ret (results_dvi rfl rfl (r1.cell 0) (r1.cell 1) rfl) rfl ?_
      exact ⟨.inl ⟨2, .inr (.inl rfl), rfl⟩, HBz.out⟩
    have h1 : decide ((r : Int) < 0) = false := by simp
    have h2 : decide ((N : Int) ≤ (r : Int)) = false := by simp; omega
    have h2' : decide (N ≤ r) = false := by simp; omega
    go_wp2_with fail
    have hs := rsolve_any w2 N ce w.heap.size E es (by rw [HMM.out]; exact HE.out.below HB2.out) HB2.out.size HOK.out hN (by rw [HMM.out]; exact hM)
    rw [HMM.out] at hs
    refine hs.mono ?_
    rintro e w3 ⟨va, ea, V, rfl, hVl, KV, KE, hsol, _, _, hb3⟩
    have HV := Lib.hid KV
    have HEA := Lib.hid KE
    have HS := Lib.hid hsol
    have HVE : Hid (V0 = gv V) := HS0.out.1.uniq hsol
    have HK3 := Lib.hid (HK2.out.below hb3 HK2.out.lt)
    have HD3 := Lib.hid (HD2.out.below hb3 HD2.out.lt)
    have HB3 : Hid (Below w.heap.size w w3) := HB2.out.trans (hb3.mono HB2.out.size)
    obtain ⟨v, hv⟩ : ∃ v, V[r]? = some v := ⟨_, List.getElem?_eq_getElem (by omega)⟩
    obtain ⟨v0, v1⟩ := HV.out.vl_at hv
    have hgv : gv V r = v := by simp [gv, hv]
    have HGV := Lib.hid hgv
    clear hs KV KE hsol hb3 HK2 HD2 HB2 x0 x1 y0 y1 r1 HBz c0 c1 hv hgv h1 h2 h2'
    have y0 := HD3.out.frozen 0
    have y1 := HD3.out.frozen 1
    have x0 := HD3.out.cell 0
    have x1 := HD3.out.cell 1
    simp at x0 x1
    have r1 := HD3.out.set2 (.int .i64 0) (.slice none 0 0)
    have HBz : Hid (Below w.heap.size w ((w3.setCell ⟨bh + 1, 0, none⟩ (.int .i64 0)).setCell ⟨bh + 1, 1, none⟩ (.slice none 0 0))) := (HB3.out.setCell (p := ⟨bh + 1, 0, none⟩) HBH.out _).setCell (p := ⟨bh + 1, 1, none⟩) HBH.out _
    by_cases hf : 1099511627776 ≤ v.c
    case pos =>
      have hfD : decide (1099511627776 ≤ v.c) = true := by simp [hf]
      clear hf
      go_wp2_with fail
      refine bodyPost_ret (results_dvi rfl rfl (r1.cell 0) (r1.cell 1) rfl) rfl ?_
      exact ⟨.inl ⟨6, .inr (.inr rfl), rfl⟩, HBz.out⟩
    case neg =>
      have hfD : decide (1099511627776 ≤ v.c) = false := by simp; omega
      have HFI : Hid ((gv V r).c < 1099511627776) := by rw [HGV.out]; exact Lib.hid (by omega)
      have HSZ : Hid (∀ i, (gv V i).s ≤ 1000) := by rw [← HVE.out]; exact HS0.out.2
      have c0 : w3.cell? ⟨bh, 0, none⟩ = some (.int .i64 N) := HK3.out.cell 0
      have c1 : w3.cell? ⟨bh, 1, none⟩ = some (.slice E M ce) := HK3.out.cell 1
      clear hf r1 HBz
      go_upto_region 8 with fail
      clear x0 x1 y0 y1 hfD v0 v1
      go_wp2_with fail
      refine (follow_any N M ce E es HMM HOK hM w w.heap.size HE.out (Nat.le_refl _) (gv V) HS HSZ ea 1000 w3 r (HSZ.out r) hr HFI.out HB3.out HEA.out).mono ?_
      rintro e w4 ⟨k, K, c, A, rfl, hdc, hb4⟩
      have HDC := Lib.hid hdc.dc
      have HD4 := Lib.hid (HD3.out.below hb4 HD3.out.lt)
      have HB4 : Hid (Below w.heap.size w w4) := HB3.out.trans (hb4.mono HB3.out.size)
      have HLO : Hid (bh + 1 < w3.heap.size) := HD3.out.lt
      have HDR := Lib.hid hdc
      clear hdc hb4 c0 c1
      have y0 := HD4.out.frozen 0
      have y1 := HD4.out.frozen 1
      have x0 := HD4.out.cell 0
      have x1 := HD4.out.cell 1
      simp at x0 x1
      have r1 := HD4.out.set2 (.int .i64 (k : Nat)) (.slice A K c)
      have HBz : Hid (Below w.heap.size w ((w4.setCell ⟨bh + 1, 0, none⟩ (.int .i64 (k : Nat))).setCell ⟨bh + 1, 1, none⟩ (.slice A K c))) := (HB4.out.setCell (p := ⟨bh + 1, 0, none⟩) HBH.out _).setCell (p := ⟨bh + 1, 1, none⟩) HBH.out _
      have HDF : Hid (Dc es ((w4.setCell ⟨bh + 1, 0, none⟩ (.int .i64 (k : Nat))).setCell ⟨bh + 1, 1, none⟩ (.slice A K c)) ((w4.setCell ⟨bh + 1, 0, none⟩ (.int .i64 (k : Nat))).setCell ⟨bh + 1, 1, none⟩ (.slice A K c)).heap.size (1000 + 1) (r : Nat) (.int .i64 (k : Nat)) (.slice A K c) (gv V r)) := by
        have hT : Touch (fun z => z = bh + 1) w4 ((w4.setCell ⟨bh + 1, 0, none⟩ (.int .i64 (k : Nat))).setCell ⟨bh + 1, 1, none⟩ (.slice A K c)) := ((Touch.refl (fun z => z = bh + 1) w4).setCell (p := ⟨bh + 1, 0, none⟩) (.inl rfl) _).setCell (p := ⟨bh + 1, 1, none⟩) (.inl rfl) _
        have h1 := HDR.out.touch hT (Nat.le_refl _) (fun z hz _ e => by have := HLO.out; omega)
        exact (h1.mono (Nat.le_refl _) hT.size).dc
      go_wp2_with fail
      refine bodyPost_ret (results_dvi rfl rfl (r1.cell 0) (r1.cell 1) rfl) rfl ?_
      exact ⟨.inr ⟨r, k, K, c, _, A, gv V, rfl, hr, rfl, HS.out, HDF.out⟩, HBz.out⟩
end Go.Proofs.Ytbalhkbpmahkgaa

namespace Go.Proofs.Ytbalhkbpmahkgaa
open Go.RowKit

set_option maxRecDepth 100000 in
set_option maxHeartbeats 8000000 in
theorem lawAtt_any (Z : Int) (ce B : Nat) (E : Option Addr) (es : List Ed) (root : Int) (w : World) (hE : HG w B E es.length es) (hB : B ≤ w.heap.size) : Calls Try.prog 6 #[.agg #[.int .i64 Z, .slice E es.length ce], .int .i64 root] w fun e w' => e = .returned (.bool true) ∧ Below w.heap.size w w' := by
  have HE := Lib.hid (hE.more hB)
  clear hE
  obtain ⟨M, hMM⟩ : ∃ M, es.length = M := ⟨_, rfl⟩
  rw [hMM] at HE ⊢
  have HMM := Lib.hid hMM
  clear hMM
  go_enter Try.func6, Try.ntmps6
  go_wp2_with fail
  obtain ⟨w0, hw0⟩ : ∃ w0, w.alloc (.cells #[.int .i64 Z, .slice E M ce] 24) = w0 := ⟨_, rfl⟩
  rw [hw0]
  obtain ⟨bh, hbh⟩ : ∃ bh, w.heap.size = bh := ⟨_, rfl⟩
  have HKH0 : Hid (Blk w0 bh 24 #[.int .i64 Z, .slice E M ce]) := by rw [← hw0]; exact Blk.new' w _ _ hbh
  have HB0 : Hid (Below w.heap.size w w0) := by rw [← hw0]; exact (Below.refl _ _).alloc (Nat.le_refl _) _
  try rw [hbh]
  have HBH := Lib.hid hbh
  clear hw0 hbh
  refine (awake_any w0).mono ?_
  rintro e w1 ⟨rfl, hb1⟩
  have HKH1 := Lib.hid (HKH0.out.below hb1 HKH0.out.lt)
  have HB1 : Hid (Below w.heap.size w w1) := HB0.out.trans (hb1.mono HB0.out.size)
  clear hb1 HKH0 HB0
  have c0 : w1.cell? ⟨bh, 0, none⟩ = some (.int .i64 Z) := HKH1.out.cell 0
  have c1 : w1.cell? ⟨bh, 1, none⟩ = some (.slice E M ce) := HKH1.out.cell 1
  go_wp2_with fail
  have hs := small33_any w1 Z ce w.heap.size E es (by rw [HMM.out]; exact HE.out.below HB1.out) HB1.out.size
  rw [HMM.out] at hs
  refine hs.mono ?_
  rintro e w2 ⟨b, rfl, hb, hbw⟩
  have HBB := Lib.hid hb
  have HKH2 := Lib.hid (HKH1.out.below hbw HKH1.out.lt)
  have HB2 : Hid (Below w.heap.size w w2) := HB1.out.trans (hbw.mono HB1.out.size)
  clear hs hb hbw HKH1 HB1 c0 c1
  cases b with
  | false =>
    go_wp2_with fail
    go_ret
    exact ⟨rfl, HB2.out⟩
  | true =>
  obtain ⟨N, hZ, hN1, hN2, hM, hok, V0, hsol0, hsz0⟩ := HBB.out rfl
  rw [HMM.out] at hM
  subst hZ
  have HOK := Lib.hid hok
  have HS0 := Lib.hid (And.intro hsol0 hsz0)
  have c0 : w2.cell? ⟨bh, 0, none⟩ = some (.int .i64 N) := HKH2.out.cell 0
  have c1 : w2.cell? ⟨bh, 1, none⟩ = some (.slice E M ce) := HKH2.out.cell 1
  clear hok HBB hsol0 hsz0
  go_wp2_with fail
  have hs := best_any w2 N ce w.heap.size E es root (by rw [HMM.out]; exact HE.out.below HB2.out) HB2.out.size HOK.out hN2 (by rw [HMM.out]; exact hM) V0 HS0.out.1 HS0.out.2
  rw [HMM.out] at hs
  refine hs.mono ?_
  rintro e w3 ⟨hres, hb3⟩
  have HKH3 := Lib.hid (HKH2.out.below hb3 HKH2.out.lt)
  have HB3 : Hid (Below w.heap.size w w3) := HB2.out.trans (hb3.mono HB2.out.size)
  clear hs hb3 c0 c1 HKH2 HB2
  rcases hres with ⟨cd, hcd, rfl⟩ | ⟨r, k, KD, c, n, A, U, rfl, hrN, rfl, hsol, hdc⟩
  case inl =>
    have HBa : Hid (Below w.heap.size w (w3.alloc (.cells #[.int .i64 0, .slice none 0 0] 33))) := HB3.out.alloc HB3.out.size _
    rcases hcd with rfl | rfl | rfl
    all_goals
      go_wp2_with fail
      go_ret
      exact ⟨rfl, HBa.out⟩
  have HG3 : Hid (HG w3 w3.heap.size E M es) := (HE.out.below HB3.out).more HB3.out.size
  have HDC := Lib.hid hdc
  have HS := Lib.hid hsol
  have HRN := Lib.hid hrN
  obtain ⟨xx, hxx⟩ : ∃ xx, U r = xx := ⟨_, rfl⟩
  rw [hxx] at HDC
  have HXX : Hid (inC U r = xx.c) := by rw [← hxx]; exact Lib.hid rfl
  clear hdc hsol hxx
  go_upto_region 8 with fail
  obtain ⟨w4, hw4⟩ : ∃ w4, w3.alloc (.cells #[.int .i64 (k : Nat), .slice A KD c] 33) = w4 := ⟨_, rfl⟩
  obtain ⟨bd, hbd⟩ : ∃ bd, w3.heap.size = bd := ⟨_, rfl⟩
  have HX4 : Hid (Below w3.heap.size w3 w4) := by rw [← hw4]; exact (Below.refl _ _).alloc (Nat.le_refl _) _
  have HKD4 : Hid (Blk w4 bd 33 #[.int .i64 (k : Nat), .slice A KD c]) := by rw [← hw4]; exact Blk.new' w3 _ _ hbd
  have HKH4 := Lib.hid (HKH3.out.below HX4.out HKH3.out.lt)
  have HB4 : Hid (Below w.heap.size w w4) := HB3.out.trans (HX4.out.mono HB3.out.size)
  try rw [hw4]
  try rw [hbd]
  clear hw4 hbd HKH3
  have c0 : w4.cell? ⟨bh, 0, none⟩ = some (.int .i64 N) := HKH4.out.cell 0
  have c1 : w4.cell? ⟨bh, 1, none⟩ = some (.slice E M ce) := HKH4.out.cell 1
  have d0 : w4.cell? ⟨bd, 0, none⟩ = some (.int .i64 (k : Nat)) := HKD4.out.cell 0
  have d1 : w4.cell? ⟨bd, 1, none⟩ = some (.slice A KD c) := HKD4.out.cell 1
  have hfd : ∀ w : World, (Instr.field 38 (.agg #[.int .i64 xx.c, .int .i64 xx.s]) 0).run Try.prog w = .ok (.int .i64 xx.c) w := fun _ => by kernel_rfl
  go_wp2_with fail
  refine (dvalue_any N M ce E es HMM HOK hM w3 w3.heap.size HG3.out (Nat.le_refl _) U (Lib.hid HS.out.nrm) (Lib.hid HS.out.pre) n w4 (r : Nat) _ _ xx HX4.out HDC.out).mono ?_
  rintro e w6 ⟨rfl, hb6⟩
  have HX6 : Hid (Below w3.heap.size w3 w6) := HX4.out.trans (hb6.mono HX4.out.size)
  have HKD6 := Lib.hid (HKD4.out.below hb6 HKD4.out.lt)
  have HKH6 := Lib.hid (HKH4.out.below hb6 HKH4.out.lt)
  have HB6 : Hid (Below w.heap.size w w6) := HB4.out.trans (hb6.mono HB4.out.size)
  clear hb6 c0 c1 d0 d1 HKH4 HB4 HKD4 HX4
  go_upto_region 9 with fail
  clear hfd
  have c0 : w6.cell? ⟨bh, 0, none⟩ = some (.int .i64 N) := HKH6.out.cell 0
  have c1 : w6.cell? ⟨bh, 1, none⟩ = some (.slice E M ce) := HKH6.out.cell 1
  have H9 : Hid (∀ w9, Below w6.heap.size w6 w9 → w9.cell? ⟨bh, 0, none⟩ = some (.int .i64 N) ∧ w9.cell? ⟨bh, 1, none⟩ = some (.slice E M ce) ∧ Below w6.heap.size w6 w9) := fun w9 h => by
    have K := HKH6.out.below h HKH6.out.lt
    exact ⟨K.cell 0, K.cell 1, h⟩
  have HCPT : Hid (∀ w9, Below w6.heap.size w6 w9 → Calls Try.prog 15 #[.agg #[.int .i64 N, .slice E M ce], .int .i64 (r : Nat)] w9 (RetL N (IsThr es (r : Nat) N) w9)) := fun w9 h9 => by
    have hb9 : Below w.heap.size w w9 := HB6.out.trans (h9.mono HB6.out.size)
    have h := pthrough_any w9 N ce w.heap.size E es (r : Nat) (by rw [HMM.out]; exact HE.out.below hb9) hb9.size HOK.out hN2 hN1 (by rw [HMM.out]; exact hM)
    rw [HMM.out] at h
    exact h
  have HCPE : Hid (∀ w9, Below w6.heap.size w6 w9 → Calls Try.prog 17 #[.agg #[.int .i64 N, .slice E M ce], .int .i64 (r : Nat)] w9 (RetL M (IsEth es (r : Nat) N) w9)) := fun w9 h9 => by
    have hb9 : Below w.heap.size w w9 := HB6.out.trans (h9.mono HB6.out.size)
    have h := pedge_any w9 N ce w.heap.size E es (r : Nat) (by rw [HMM.out]; exact HE.out.below hb9) hb9.size HOK.out hN2 hN1 (by rw [HMM.out]; exact hM)
    rw [HMM.out] at h
    exact h
  have B8 : Below w6.heap.size w6 w6.drew := (Below.refl _ _).drew
  clear c0 c1
  go_cut [8, 9] (fun x5 x6 wx => ∃ (g3 g4 : Nat) (l3 l4 : List Int), x5 = .slice (some ⟨g3, 0, none⟩) N N ∧ x6 = .slice (some ⟨g4, 0, none⟩) M M ∧ l3.length = N ∧ l4.length = M ∧ Blk wx g3 3 (ints l3).toArray ∧ Blk wx g4 3 (ints l4).toArray ∧ (IsThr es (r : Nat) N) l3 ∧ (IsEth es (r : Nat) N) l4 ∧ Below w6.heap.size w6 wx)
  case first =>
    go_region_held3 (fun w9 => w9.cell? ⟨bh, 0, none⟩ = some (.int .i64 N) ∧ w9.cell? ⟨bh, 1, none⟩ = some (.slice E M ce) ∧ Below w6.heap.size w6 w9)
      (first | exact H9.out _ B8 | exact H9.out _ X4 | exact H9.out _ X3)
      (first
        | (go_at_call 15; (with_reducible refine (HCPT.out _ B8).mono ?_); rintro e w3 ⟨g3, l3, rfl, hl3, kk, ho3, hg, hb⟩; have X3 : Below w6.heap.size w6 w3 := B8.trans (hb.mono B8.size); have K33 := Lib.hid kk; have L3 := Lib.hid (And.intro hl3 ho3); clear hl3 kk ho3 hg hb)
        | (go_at_call 17; (with_reducible refine (HCPE.out _ X3).mono ?_); rintro e wq ⟨g4, l4, rfl, hl4, kk, ho4, hg, hb⟩; have X4 : Below w6.heap.size w6 wq := X3.trans (hb.mono X3.size); have K44 := Lib.hid kk; have L4 := Lib.hid (And.intro hl4 ho4); have K34 := Lib.hid (K33.out.below hb K33.out.lt); clear hl4 kk ho4 hg hb))
    all_goals
      go_wp2_with fail
      go_meet
      exact ⟨g3, g4, l3, l4, rfl, rfl, L3.out.1, L4.out.1, K34.out, K44.out, L3.out.2, L4.out.2, X4⟩
  case rest =>
  obtain ⟨g3, g4, l3, l4, rfl, rfl, hl3, hl4, K3, K4, ho3, ho4, X4⟩ := hcut
  rename World => wq
  have HL3 := Lib.hid (And.intro hl3 (And.intro K3 ho3))
  have HL4 := Lib.hid (And.intro hl4 (And.intro K4 ho4))
  have HKHq := Lib.hid (HKH6.out.below X4 HKH6.out.lt)
  have HBq : Hid (Below w.heap.size w wq) := HB6.out.trans (X4.mono HB6.out.size)
  have X4q := Lib.hid X4
  clear hl3 hl4 K3 K4 ho3 ho4 X4 B8 H9 HKH6 HB6
  have c0 : wq.cell? ⟨bh, 0, none⟩ = some (.int .i64 N) := HKHq.out.cell 0
  have c1 : wq.cell? ⟨bh, 1, none⟩ = some (.slice E M ce) := HKHq.out.cell 1
  have HKDq := Lib.hid (HKD6.out.below X4q.out HKD6.out.lt)
  have HXq : Hid (Below w3.heap.size w3 wq) := HX6.out.trans (X4q.out.mono HX6.out.size)
  obtain ⟨U1, O, hs, ho, hT⟩ := HL3.out.2.2
  obtain ⟨U', O', hs', ho', hEl⟩ := HL4.out.2.2
  obtain rfl := hs.uniq hs'
  obtain rfl := hs.uniq HS.out
  obtain rfl := ho.uniq ho'
  have HO := Lib.hid ho
  have HTT := Lib.hid hT
  have HEL := Lib.hid hEl
  have hq1 : ((N : Int) != (N : Int)) = false := by simp
  have hq2 : ((M : Int) != (M : Int)) = false := by simp
  have d0 : wq.cell? ⟨bd, 0, none⟩ = some (.int .i64 (k : Nat)) := HKDq.out.cell 0
  have d1 : wq.cell? ⟨bd, 1, none⟩ = some (.slice A KD c) := HKDq.out.cell 1
  clear hs ho hT hs' ho' hEl
  go_wp2_with fail
  refine (bounded_any N M ce E es HMM HOK hM w3 w3.heap.size HG3.out (Nat.le_refl _) U1 O r HS HO xx.c g3 g4 l3 l4 HTT HEL n wq (r : Nat) _ _ xx HXq.out HL3.out.2.1 HL4.out.2.1 HDC.out (by rw [Int.toNat_natCast, HO.out.pre.root r HRN.out rfl, Int.zero_add]; exact mn_le_self _)).mono ?_
  rintro e w7 ⟨rfl, hb7⟩
  have HK37 := Lib.hid (HL3.out.2.1.below hb7 HL3.out.2.1.lt)
  have HK47 := Lib.hid (HL4.out.2.1.below hb7 HL4.out.2.1.lt)
  have HKH7 := Lib.hid (HKHq.out.below hb7 HKHq.out.lt)
  have HB7 : Hid (Below w.heap.size w w7) := HBq.out.trans (hb7.mono HBq.out.size)
  have HLO : Hid (∀ v, v < N → xx.c ≤ mn (O v + inC U1 v)) := fun v hv => by
    have h1 := HO.out.through HRN.out HS.out.nrm HS.out.pre (fun e he => (HOK.out e he).cost.1) v
    have h2 := inC_ord HS.out.nrm r
    rw [HXX.out] at h1 h2
    unfold mn
    omega
  have HLE : Hid (∀ (k : Nat) (e : Ed), es[k]? = some e → xx.c ≤ eth (inC U1) O e) := fun k e he => by
    rw [← HXX.out]
    exact HO.out.edge HRN.out HS.out.nrm HS.out.pre (fun e he => (HOK.out e he).cost.1) (List.mem_of_getElem? he)
  clear hb7 c0 c1 d0 d1 hq1 hq2 HKHq HBq HKDq HXq HKD6 HX6
  go_wp2_with fail
  go_loop [10] (fun x => ∃ v : Nat, v ≤ N ∧ x = .int .i64 v) (fun x => N - (intOf x).toNat)
  case atStart => exact ⟨0, Nat.zero_le _, rfl⟩
  case round =>
    obtain ⟨v, hv, rfl⟩ := hrel
    have c0 : w7.cell? ⟨bh, 0, none⟩ = some (.int .i64 N) := HKH7.out.cell 0
    by_cases hlv : v < N
    case pos => as_aux_lemma =>
      have hlvD : decide (v < N) = true := by simp [hlv]
      obtain ⟨z, hz⟩ : ∃ z, mn (O v + inC U1 v) = z := ⟨_, rfl⟩
      have h1 := HTT.out v hlv
      have h2 := HLO.out v hlv
      rw [hz] at h1 h2
      have x0 := HK37.out.gint h1
      have hD : decide (z < xx.c) = false := by simp; omega
      clear h1 h2 hz
      go_wp2_with fail
      go_round
      case rel => exact ⟨v + 1, by omega, by go_num⟩
      case measure => simp [intOf]; omega
    case neg =>
      have hlvD : decide (v < N) = false := by simp [hlv]
      go_wp2_with fail
      clear c0
      go_loop [11] (fun x => ∃ j : Nat, j ≤ M ∧ x = .int .i64 j) (fun x => M - (intOf x).toNat)
      case atStart => exact ⟨0, Nat.zero_le _, rfl⟩
      case round =>
        obtain ⟨j, hj, rfl⟩ := hrel
        by_cases hlj : j < M
        case neg =>
          have hljD : decide (j < M) = false := by simp [hlj]
          go_wp2_with fail
          go_ret
          exact ⟨rfl, HB7.out⟩
        case pos => as_aux_lemma =>
          have hljD : decide (j < M) = true := by simp [hlj]
          obtain ⟨e, he⟩ : ∃ e, es[j]? = some e := ⟨_, List.getElem?_eq_getElem (by have := HMM.out; omega)⟩
          obtain ⟨z, hz⟩ : ∃ z, eth (inC U1) O e = z := ⟨_, rfl⟩
          have h1 := HEL.out j e he
          have h2 := HLE.out j e he
          rw [hz] at h1 h2
          have x0 := HK47.out.gint h1
          have hD : decide (z < xx.c) = false := by simp; omega
          clear h1 h2 hz he
          go_wp2_with fail
          go_round
          case rel => exact ⟨j + 1, by omega, by go_num⟩
          case measure => simp [intOf]; omega
end Go.Proofs.Ytbalhkbpmahkgaa

namespace Go.Proofs.Ytbalhkbpmahkgaa
open Go.ChangeShapes Go.WideShapes Go.ChangeAt Go.RowKit

set_option maxRecDepth 100000 in
theorem lawOuLAtt_lifted (os : Os) (started : os.Started) (H : Type) (enc : TypeId × Value → H) :
    ReturnsInHanded {} Try.checked os 6 .any (Rows.outsideThroughIsAttainedSpec.pre6 enc Try.prog Try.f6 Rows.outsideThroughIsAttainedRow.domain false)
      (Rows.outsideThroughIsAttainedSpec.post enc Try.prog Try.f6 false true false false) := by
  refine returnsInHanded_of_change (C := Try.checked) Try.own started (by kernel_rfl) Try.func6
    (ChangeSpec.witness6 (enc := enc) (C := Try.checked) false ⟨#[], #[.agg #[.int .i64 0, .slice none 0 0], .int .i64 0], []⟩ 8 (by kernel_rfl) (by kernel_rfl) (by kernel_rfl) (by kernel_rfl)) ?_
  intro W base args ds gs before hval0 hW hcnd _
  have hval : ∀ (j : Nat) t v, Try.f6.params[j]? = some t → args[j]? = some v → Value.okWide Try.prog W .any base t v := hval0
  have hW' := hW
  obtain ⟨p, q, hA0, hV, rfl, hfz, hnd⟩ := hW
  have hA : DataW.TrodAll enc Try.prog W 0 (fun _ => true) true Try.f6.params.toList args.toList ds p := hA0
  rw [Try.params6] at hA hval
  obtain ⟨v0, v1, d0, d1, p0, p1, rfl, rfl, rfl, h0, h1⟩ := trodAll_two hA
  obtain ⟨rfl, rfl⟩ := trodVars_none hV
  obtain ⟨Z0, A0, c0, es0, rfl, hg0, hec0, hc0⟩ := open_hg (hval 0 24 v0 rfl rfl) h0
  obtain ⟨x1, rfl, _, _, wx1⟩ := open_int Try.underlying3 (hval 1 3 v1 rfl rfl) h1
  refine (lawAtt_any Z0 c0 W.heap.size A0 es0 x1 W hg0 (Nat.le_refl _)).mono fun e W' ⟨he, hb⟩ => ?_
  subst he
  exact ⟨_, rfl, law_post (by kernel_rfl) (by kernel_rfl) rfl (by kernel_rfl) hW' rfl rfl rfl hb⟩

theorem lawOuLAtt_holds : Rows.OutsideThroughIsAttainedSaid :=
  OpenClaim.holds_of_wide 6 Try.f6 rfl rfl rfl rfl rfl rfl rfl ⟨rfl, rfl, rfl, rfl, rfl⟩ rfl rfl rfl rfl rfl (by kernel_rfl) Try.func6 (by kernel_rfl)
    (of_decide_eq_true (by kernel_rfl)) (by unfold Func.isWrapper; first | (rw [if_pos (by decide +kernel)]; kernel_rfl) | (rw [if_neg (by decide +kernel)]; exact ⟨rfl, rfl⟩))
    (fun os started H enc _ => lawOuLAtt_lifted os started H enc)
#print axioms lawOuLAtt_holds
end Go.Proofs.Ytbalhkbpmahkgaa
