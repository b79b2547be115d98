/- The law KnuthSuperior. -/
import Derived.Test.YtkeiakmfnammbaaKnLLess
import Derived.Test.YtkeiakmfnammbaaKnRowsB
namespace Go.Proofs.Ytkeiakmfnammbaa
open Go.RowKit

section
variable {P : Program} (w : World)
theorem wpList_append_any_on {ops : Array Oper} {rest : List Oper} {o : Oper} {a : Act} {Q : Exit → Act → World → Prop} (hgd : Region.wanted o (yielded ops a.tmps) = true) (s x : Operand) (t : TypeId)
    (ho : o.op = .call { callee := .builtin .append, args := #[s, x], argTypes := #[t, t] })
    (base : Nat) (e : TypeId) (i : TypeInfo) (z : Value) (size bytes : Nat) (ht : P.underlying t = some (.slice e)) (hi : P.info? e = some i) (hz : i.zero = some z)
    (hsize : i.size = size) (hby : i.bytes = bytes) (hzs : z.cells.size = size) (hsz : 0 < size)
    (v : Value) (n : Nat) (xs : List Value) (hs : a.eval s = v) (hown : w.ownsRow base e size v n xs)
    (B : Nat) (A : Option Addr) (m c : Nat) (news : List Value) (hx : a.eval x = .slice A m c) (hr : Reads w B size A m news) (h1 : ∀ u ∈ news, u.oneCell' = true)
    (h63 : n + m ≤ maxLen) (hbytes : (n + m) * bytes ≤ 140737488355328) (hbase : base ≤ w.heap.size)
    (h : ∀ v' w', w'.ownsRow base e size v' (n + m) (xs ++ news) → w.grownBy w' v.ownBlock → (v'.ownBlock = v.ownBlock ∨ v'.ownBlock = some w.heap.size) → wpList P ops Q rest (a.put o.dst v') w') : wpList P ops Q (o :: rest) a w :=
  wpList_step fun _ hK => by
    rw [if_pos hgd]
    exact wp_append_any w s x t ho base e i z size bytes ht hi hz hsize hby hzs hsz v n xs hs hown B A m c news hx hr h1 h63 hbytes hbase fun v' w' h2 h3 h4 => hK _ _ (h v' w' h2 h3 h4)
end
theorem own_vls {w : World} {base n : Nat} {v : Value} {l : List Vl} (h : w.ownsRow base 23 2 v n (vls l)) (hn : 0 < n) : ∃ g c, v = .slice (some ⟨g, 0, none⟩) n c ∧ base ≤ g ∧ (∀ j, w.frozen? ⟨g, j, none⟩ = false) ∧ n ≤ c := by
  rcases h.2 with ⟨hv, h0⟩ | ⟨g, cap, cur, hv, hb, hg, h1, _⟩
  · omega
  · exact ⟨g, cap, hv, hb, fun j => Blk.frozen (t := 23) (cs := cur) hg j, h1⟩
theorem own_vl_at {w : World} {base n g c i : Nat} {l : List Vl} {v : Vl} (h : w.ownsRow base 23 2 (.slice (some ⟨g, 0, none⟩) n c) n (vls l)) (hv : l[i]? = some v) : w.cell? ⟨g, i * 2, none⟩ = some (.int .i64 v.c) ∧ w.cell? ⟨g, i * 2 + 1, none⟩ = some (.int .i64 v.s) := by
  have hr := Reads.of_own h
  have hi := (List.getElem?_eq_some_iff.1 hv).1
  have hl := hr.len_vls
  obtain ⟨b, off, u, hA, _, hu, h1, h2⟩ := hr.vl_at (k := i) (by omega)
  injection hA with hA
  injection hA with e1 e2 _
  subst e1 e2
  rw [hv] at hu
  injection hu with hu
  subst hu
  exact ⟨by simpa using h1, by simpa using h2⟩
theorem sup_ways (cost : Int) (n : Nat) : decide (cost < 0) = true ∨ (decide (cost < 0) = false ∧ decide (1099511627776 < cost) = true) ∨ (decide (cost < 0) = false ∧ decide (1099511627776 < cost) = false ∧ decide (20 < n) = true ∧ decide ((20 : Int) < (n : Int)) = true) ∨
    (decide (cost < 0) = false ∧ decide (1099511627776 < cost) = false ∧ decide (20 < n) = false ∧ decide ((20 : Int) < (n : Int)) = false ∧ decide (n = 0) = true ∧ ((n : Int) == 0) = true) ∨
    (decide (cost < 0) = false ∧ decide (1099511627776 < cost) = false ∧ decide (20 < n) = false ∧ decide ((20 : Int) < (n : Int)) = false ∧ decide (n = 0) = false ∧ ((n : Int) == 0) = false ∧ 0 ≤ cost ∧ cost ≤ 1099511627776 ∧ n ≤ 20 ∧ 0 < n) := by
  simp only [decide_eq_true_eq, decide_eq_false_iff_not, beq_iff_eq, beq_eq_false_iff_ne, ne_eq]
  omega
set_option maxRecDepth 100000 in
set_option maxHeartbeats 4000000 in
theorem lawSup_any (cost : Int) (A : Option Addr) (n c B : Nat) (l : List Vl) (b : Vl) (w : World) (h : Reads w B 2 A n (vls l)) (hB : B ≤ w.heap.size) : Calls Try.prog 5 #[.int .i64 cost, .slice A n c, .agg #[.int .i64 b.c, .int .i64 b.s]] w fun e w' => e = .returned (.bool true) ∧ Below w.heap.size w w' := by
  have HR := Lib.hid (h.more hB)
  have HLN := Lib.hid h.len_vls
  clear h
  have HONE : Hid (∀ u ∈ vls l, u.oneCell' = true) := fun u hu => vls_one hu
  obtain ⟨i0, hi0, hz0, hz1, hz2⟩ := info_parts infoVl
  rcases sup_ways cost n with h1 | ⟨h1, h2⟩ | ⟨h1, h2, h3, h4⟩ | ⟨h1, h2, h3, h4, h5, h6⟩ | ⟨h1, h2, h3, h4, h5, h6, h7, h8, h9, h10⟩
  case inr.inr.inr.inr =>
    have H7 := Lib.hid (And.intro h7 (And.intro h8 (And.intro h9 h10)))
    clear h7 h8
    go_enter Try.func5, Try.ntmps5
    go_upto_region 1 with fail
    obtain ⟨w1, hw1⟩ : ∃ w1, w.alloc (.cells #[.int .i64 b.c, .int .i64 b.s] 23) = w1 := ⟨_, rfl⟩
    obtain ⟨gb, hgb⟩ : ∃ gb, w.heap.size = gb := ⟨_, rfl⟩
    have HKb : Hid (Blk w1 gb 23 #[.int .i64 b.c, .int .i64 b.s]) := by rw [← hw1]; exact Blk.new' w _ _ hgb
    have HB1 : Hid (Below w.heap.size w w1) := by rw [← hw1]; exact (Below.refl _ _).alloc (Nat.le_refl _) _
    rw [hw1]
    try rw [hgb]
    clear hw1 hgb
    have HR1 := Lib.hid ((HR.out.below HB1.out).more HB1.out.size)
    have b0 : w1.cell? ⟨gb, 0, none⟩ = some (.int .i64 b.c) := HKb.out.cell 0
    have b1 : w1.cell? ⟨gb, 1, none⟩ = some (.int .i64 b.s) := HKb.out.cell 1
    have HO0 : Hid ((w1.alloc (.cells #[.int .i64 b.c, .int .i64 b.s] 23)).ownsRow w1.heap.size 23 2 (.slice (some ⟨w1.heap.size, 0, none⟩) 1 1) 1 (vls [b])) :=
      ⟨rfl, .inr ⟨w1.heap.size, 1, #[.int .i64 b.c, .int .i64 b.s], rfl, Nat.le_refl _, Blk.new w1 _ _, Nat.le_refl _, by unfold maxLen; omega, rfl, rfl⟩⟩
    have HREa := Lib.hid (HR1.out.below ((Below.refl w1.heap.size w1).alloc (Nat.le_refl _) (.cells #[.int .i64 b.c, .int .i64 b.s] 23)))
    have hzb : w1.heap.size ≤ (w1.alloc (.cells #[.int .i64 b.c, .int .i64 b.s] 23)).heap.size := by simp
    go_wp2_with (at_builtin; go_must (refine wpList_append_any_on _ (by simp [Region.wanted, yielded]) _ _ 27 (by rfl) w1.heap.size 23 i0 (.agg #[.int .i64 0, .int .i64 0]) 2 16 Try.underlying27 hi0 hz0 hz1 hz2 rfl (by decide) (.slice (some ⟨w1.heap.size, 0, none⟩) 1 1) 1 (vls [b]) (by rfl) HO0.out w1.heap.size A n c (vls l) (by rfl) HREa.out HONE.out (by unfold maxLen; omega) (by omega) hzb ?_; intro v5 w5 hown5 hgrow5 hat5; obtain ⟨A5, cA, rfl, hc5, _⟩ := own_form hown5; have HOW5 := Lib.hid hown5; have hx5 : Below w1.heap.size w1 w5 := ((Below.refl _ w1).alloc (Nat.le_refl _) _).grown hgrow5 (by simp) (fun q hq => (by have h2 : w1.heap.size = q := (by simpa [Value.ownBlock] using hq); omega)); have HX5 := Lib.hid hx5; clear hown5 hgrow5 hat5 hx5))
    have HOB : Hid (vls [b] ++ vls l = vls (b :: l)) := by rw [← vls_append]; rfl
    have HR5 : Hid (Reads w5 w5.heap.size 2 A5 (1 + n) (vls (b :: l))) := by rw [← HOB.out]; exact Reads.of_own HOW5.out
    have HK5 := Lib.hid (HKb.out.below HX5.out HKb.out.lt)
    have HB5 : Hid (Below w.heap.size w w5) := HB1.out.trans (HX5.out.mono HB1.out.size)
    clear hzb b0 b1 hc5
    refine (ordinary_any w5 A5 (1 + n) cA w5.heap.size (b :: l) HR5.out (by omega)).mono ?_
    rintro e w6 ⟨bo, rfl, hbo, hb6⟩
    have HOO := Lib.hid hbo
    have HK6 := Lib.hid (HK5.out.below hb6 HK5.out.lt)
    have HB6 : Hid (Below w.heap.size w w6) := HB5.out.trans (hb6.mono HB5.out.size)
    clear hbo hb6
    cases bo with
    | false =>
      go_wp2_with fail
      refine (awake_any w6).mono ?_
      rintro e w7 ⟨rfl, hb7⟩
      go_wp2_with fail
      go_ret
      exact ⟨rfl, HB6.out.trans (hb7.mono HB6.out.size)⟩
    | true =>
      have HOA := Lib.hid (HOO.out rfl)
      have HOL : Hid (∀ v ∈ l, Ordy v) := fun v hv => HOA.out v (by simp [hv])
      have HOb : Hid (Ordy b) := HOA.out b (by simp)
      clear HOO
      go_wp2_with fail
      refine (combine_any cost A n c w.heap.size l w6 (HR.out.below HB6.out) HB6.out.size H7.out.1 HOL.out (by omega)).mono ?_
      rintro e w7 ⟨rfl, hb7⟩
      obtain ⟨x, hx⟩ : ∃ x, comb cost l = x := ⟨_, rfl⟩
      rw [hx]
      have HX := Lib.hid hx
      have HB7 : Hid (Below w.heap.size w w7) := HB6.out.trans (hb7.mono HB6.out.size)
      have HK7 := Lib.hid (HK6.out.below hb7 HK6.out.lt)
      clear hb7 hx
      go_wp2_with fail
      obtain ⟨w8, hw8⟩ : ∃ w8, w7.alloc (.cells #[.int .i64 x.c, .int .i64 x.s] 23) = w8 := ⟨_, rfl⟩
      obtain ⟨gx, hgx⟩ : ∃ gx, w7.heap.size = gx := ⟨_, rfl⟩
      have HKx : Hid (Blk w8 gx 23 #[.int .i64 x.c, .int .i64 x.s]) := by rw [← hw8]; exact Blk.new' w7 _ _ hgx
      have hx8 : Below w7.heap.size w7 w8 := by rw [← hw8]; exact (Below.refl _ _).alloc (Nat.le_refl _) _
      have HK8 := Lib.hid (HK7.out.below hx8 HK7.out.lt)
      have HB8 : Hid (Below w.heap.size w w8) := HB7.out.trans (hx8.mono HB7.out.size)
      try rw [hw8]
      try rw [hgx]
      clear hw8 hgx hx8 HK7 HB7
      go_loopw [8] (fun v wr => ∃ i : Nat, i ≤ n ∧ v = .int .i64 i ∧ Hid (Below w8.heap.size w8 wr)) (fun v _ => n - (intOf v).toNat)
      case atStart => exact ⟨0, Nat.zero_le _, rfl, Below.refl _ _⟩
      case round =>
        obtain ⟨i, hi, rfl, HBR⟩ := hrel
        have HBr : Hid (Below w.heap.size w wr) := HB8.out.trans (HBR.out.mono HB8.out.size)
        by_cases hlt : i < n
        case neg =>
          have hltD : decide (i < n) = false := by simp [hlt]
          go_wp2_with fail
          refine (awake_any _).mono ?_
          rintro e wa ⟨rfl, hba⟩
          go_wp2_with fail
          go_ret
          exact ⟨rfl, HBr.out.trans (hba.mono HBr.out.size)⟩
        case pos =>
          have hltD : decide (i < n) = true := by simp [hlt]
          have HRr := Lib.hid ((HR.out.below HBr.out).more HBr.out.size)
          obtain ⟨ba, oa, v, hA, hba, hv, l0, l1⟩ := HRr.out.vl_at hlt
          have HV := Lib.hid hv
          have hvm := List.mem_of_getElem? hv
          have HKxr := Lib.hid (HKx.out.below HBR.out HKx.out.lt)
          have HKbr := Lib.hid (HK8.out.below HBR.out HK8.out.lt)
          subst hA
          have f0 := ext_cell l0
          have f1 := ext_cell l1
          have f2 := ext_cell (show wr.cell? ⟨gx, 0, none⟩ = some (.int .i64 x.c) from HKxr.out.cell 0)
          have f3 := ext_cell (show wr.cell? ⟨gx, 1, none⟩ = some (.int .i64 x.s) from HKxr.out.cell 1)
          have hsup : x.c < 1099511627776 → x.s < 1099511627776 → vlt v.c v.s x.c x.s = true := fun h1 h2 => by
            have h3 := comb_sup' (cost := cost) (l := l) (v := v) H7.out.1 HOL.out hvm (by rw [HX.out]; exact h1) (by rw [HX.out]; exact h2)
            rw [HX.out] at h3
            unfold vlt
            simp only [Bool.or_eq_true, decide_eq_true_eq, Bool.and_eq_true, beq_iff_eq]
            exact h3
          have hmon : vlt v.c v.s b.c b.s = false → vlt x.c x.s (comb cost (l.set i b)).c (comb cost (l.set i b)).s = false := fun h1 => by
            cases h2 : vlt x.c x.s (comb cost (l.set i b)).c (comb cost (l.set i b)).s with
            | false => rfl
            | true =>
              have h3 : vle b v := Classical.byContradiction fun h => by rw [vlt_iff.2 h] at h1; cases h1
              have h4 : vle (comb cost (l.set i b)) (comb cost l) := comb_mono H7.out.1 (LeL.set hv h3) (fun u hu => by
                rcases List.mem_or_eq_of_mem_set hu with h | h
                · exact HOL.out u h
                · rw [h]; exact HOb.out) HOL.out
              rw [HX.out] at h4
              exact absurd h4 (vlt_iff.1 h2)
          have HMON := Lib.hid hmon
          have hway : decide (x.c < 1099511627776) = false ∨ (decide (x.c < 1099511627776) = true ∧ decide (x.s < 1099511627776) = false) ∨ (decide (x.c < 1099511627776) = true ∧ decide (x.s < 1099511627776) = true ∧ vlt v.c v.s x.c x.s = true) := by
            by_cases h1 : x.c < 1099511627776
            · by_cases h2 : x.s < 1099511627776
              · exact .inr (.inr ⟨by simp [h1], by simp [h2], hsup h1 h2⟩)
              · exact .inr (.inl ⟨by simp [h1], by simp [h2]⟩)
            · exact .inl (by simp [h1])
          clear l0 l1 hv hvm hsup hmon
          go_upto_region 7 with fail
          go_cut [60] (fun x60 wx => x60 = .bool false ∧ Below wr.heap.size wr wx)
          case first =>
            rcases hway with h1 | ⟨h1, h2⟩ | ⟨h1, h2, h3⟩
            case inr.inr =>
              have HLS := less_b h3
              clear h3
              refine wp_region_ext (by kernel_rfl) (by kernel_rfl) ?_
              repeat (go_big_quiet_step (with_reducible exact calls_ext (HLS.out _)))
              refine wpQuiet_nil ?_
              rintro _ ⟨u, rfl⟩
              go_wp2_with fail
              go_meet
              exact ⟨by simp, u.h⟩
            all_goals
              refine wp_region_ext (by kernel_rfl) (by kernel_rfl) ?_
              repeat (go_big_quiet_step (fail))
              refine wpQuiet_nil ?_
              rintro _ ⟨u, rfl⟩
              go_wp2_with fail
              go_meet
              exact ⟨by simp, u.h⟩
          case rest =>
            obtain ⟨rfl, hx9⟩ := hcut
            rename World => w9
            have HBR9 : Hid (Below w8.heap.size w8 w9) := HBR.out.trans (hx9.mono HBR.out.size)
            have HB9 : Hid (Below w.heap.size w w9) := HB8.out.trans (HBR9.out.mono HB8.out.size)
            have HR9 := Lib.hid (HRr.out.below hx9)
            have HR9' : Hid (Reads w9 w9.heap.size 2 (some ⟨ba, oa, none⟩) n (vls l)) := HR9.out.more hx9.size
            have HKx9 := Lib.hid (HKxr.out.below hx9 HKxr.out.lt)
            have HKb9 := Lib.hid (HKbr.out.below hx9 HKbr.out.lt)
            clear hx9 f0 f1 f2 f3 hway HRr HKxr HKbr HBR
            have HO9 : Hid ((w9.alloc (.cells #[] 23)).ownsRow w9.heap.size 23 2 (.slice (some ⟨w9.heap.size, 0, none⟩) 0 0) 0 []) :=
              ⟨rfl, .inr ⟨w9.heap.size, 0, #[], rfl, Nat.le_refl _, Blk.new w9 _ _, Nat.le_refl _, by unfold maxLen; omega, rfl, rfl⟩⟩
            have HREa := Lib.hid (HR9'.out.below ((Below.refl w9.heap.size w9).alloc (Nat.le_refl _) (.cells #[] 23)))
            have hzb : w9.heap.size ≤ (w9.alloc (.cells #[] 23)).heap.size := by simp
            go_wp2_with (at_builtin; go_must (refine wpList_append_any _ (by rfl) _ _ 27 (by rfl) w9.heap.size 23 i0 (.agg #[.int .i64 0, .int .i64 0]) 2 16 Try.underlying27 hi0 hz0 hz1 hz2 rfl (by decide) (.slice (some ⟨w9.heap.size, 0, none⟩) 0 0) 0 [] (by rfl) HO9.out w9.heap.size (some ⟨ba, oa, none⟩) n c (vls l) (by rfl) HREa.out HONE.out (by unfold maxLen; omega) (by omega) hzb ?_; intro v10 w10 hown hgrow hat; obtain ⟨gm, cm, hAm, hgrb, hKm, hmc⟩ := own_vls hown (by omega); subst hAm; simp only [Nat.zero_add, List.nil_append] at hown; simp only [Nat.zero_add]; have HOW := Lib.hid hown; have hx10 : Below w9.heap.size w9 w10 := ((Below.refl _ w9).alloc (Nat.le_refl _) _).grown hgrow (by simp) (fun q hq => (by have h2 : w9.heap.size = q := (by simpa [Value.ownBlock] using hq); omega)); have HX10 := Lib.hid hx10; have m01 := own_vl_at HOW.out HV.out; have m0 := m01.1; have m1 := m01.2; have z0 := hKm (i * 2); have z1 := hKm (i * 2 + 1); have b0 : w10.cell? ⟨gb, 0, none⟩ = some (.int .i64 b.c) := (HKb9.out.below hx10 HKb9.out.lt).cell 0; have b1 : w10.cell? ⟨gb, 1, none⟩ = some (.int .i64 b.s) := (HKb9.out.below hx10 HKb9.out.lt).cell 1; clear m01 hKm hown hgrow hat hx10))
            obtain ⟨w11, hw11⟩ : ∃ w11, (w10.setCell ⟨gm, i * 2, none⟩ (.int .i64 b.c)).setCell ⟨gm, i * 2 + 1, none⟩ (.int .i64 b.s) = w11 := ⟨_, rfl⟩
            have hil : i < l.length := by rw [HLN.out]; exact hlt
            have HO11 : Hid (w11.ownsRow w9.heap.size 23 2 (.slice (some ⟨gm, 0, none⟩) n cm) n (vls (l.set i b))) := by
              rw [← hw11, vls_set l i b hil]
              exact own_setCell (own_setCell HOW.out (i * 2) (.int .i64 b.c) (by omega)) (i * 2 + 1) (.int .i64 b.s) (by omega)
            have HX11 : Hid (Below w9.heap.size w9 w11) := by rw [← hw11]; exact (HX10.out.setCell (p := ⟨gm, i * 2, none⟩) hgrb _).setCell (p := ⟨gm, i * 2 + 1, none⟩) hgrb _
            have HB11 : Hid (Below w8.heap.size w8 w11) := HBR9.out.trans (HX11.out.mono HBR9.out.size)
            rw [hw11]
            have HR11 := Lib.hid (HR9'.out.below HX11.out)
            have HKx11 := Lib.hid (HKx9.out.below HX11.out HKx9.out.lt)
            have HKb11 := Lib.hid (HKb9.out.below HX11.out HKb9.out.lt)
            obtain ⟨b', o', v', hA', _, hv', l0, l1⟩ := HR11.out.vl_at hlt
            injection hA' with hA'
            injection hA' with e1 e2 _
            subst e1 e2
            rw [HV.out] at hv'
            injection hv' with hv'
            subst hv'
            have f0 := ext_cell l0
            have f1 := ext_cell l1
            have f2 := ext_cell (show w11.cell? ⟨gx, 0, none⟩ = some (.int .i64 x.c) from HKx11.out.cell 0)
            have f3 := ext_cell (show w11.cell? ⟨gx, 1, none⟩ = some (.int .i64 x.s) from HKx11.out.cell 1)
            have f4 := ext_cell (show w11.cell? ⟨gb, 0, none⟩ = some (.int .i64 b.c) from HKb11.out.cell 0)
            have f5 := ext_cell (show w11.cell? ⟨gb, 1, none⟩ = some (.int .i64 b.s) from HKb11.out.cell 1)
            obtain ⟨y, hy⟩ : ∃ y, comb cost (l.set i b) = y := ⟨_, rfl⟩
            have HY := Lib.hid hy
            have HCB : Hid (∀ u : Ext w11, Calls Try.prog 17 #[.int .i64 cost, .slice (some ⟨gm, 0, none⟩) n cm] u.W fun e w' => e = .returned (.agg #[.int .i64 y.c, .int .i64 y.s]) ∧ Below u.W.heap.size u.W w') := fun u => by
              rw [← HY.out]
              exact combine_any cost (some ⟨gm, 0, none⟩) n cm w11.heap.size (l.set i b) u.W ((Reads.of_own HO11.out).below u.h) u.h.size H7.out.1 (fun z hz => by
                rcases List.mem_or_eq_of_mem_set hz with h | h
                · exact HOL.out z h
                · rw [h]; exact HOb.out) (by omega)
            have HMY : Hid (vlt v.c v.s b.c b.s = false → vlt x.c x.s y.c y.s = false) := fun h => by rw [← HY.out]; exact HMON.out h
            clear hw11 hy hgrb m0 m1 z0 z1 b0 b1 l0 l1 hil
            cases hvb : vlt v.c v.s b.c b.s with
            | true =>
              have HL1 := less_b hvb
              clear hvb
              refine wp_region_ext (by kernel_rfl) (by kernel_rfl) ?_
              repeat (go_big_quiet_step (with_reducible exact calls_ext (HL1.out _)))
              refine wpQuiet_nil ?_
              rintro _ ⟨u, rfl⟩
              clear f0 f1 f2 f3 f4 f5
              go_wp2_with fail
              go_roundw
              case rel => exact ⟨i + 1, by omega, by go_num, HB11.out.trans (u.h.mono HB11.out.size)⟩
              case measure => simp [intOf]; omega
            | false =>
              have HL1 := less_b hvb
              have HL2 := less_b (HMY.out hvb)
              clear hvb
              refine wp_region_ext (by kernel_rfl) (by kernel_rfl) ?_
              repeat (go_big_quiet_step ((first | with_reducible exact calls_ext (HL1.out _) | with_reducible exact calls_ext (HCB.out _) | with_reducible exact calls_ext (HL2.out _))))
              refine wpQuiet_nil ?_
              rintro _ ⟨u, rfl⟩
              clear f0 f1 f2 f3 f4 f5
              go_wp2_with fail
              go_roundw
              case rel => exact ⟨i + 1, by omega, by go_num, HB11.out.trans (u.h.mono HB11.out.size)⟩
              case measure => simp [intOf]; omega
  all_goals
    go_enter Try.func5, Try.ntmps5
    go_wp2_with fail
    refine (awake_any _).mono ?_
    rintro e w2 ⟨rfl, hb2⟩
    go_wp2_with fail
    go_ret
    exact ⟨rfl, ((Below.refl _ w).alloc (Nat.le_refl _) _).trans (hb2.mono (by simp))⟩
end Go.Proofs.Ytkeiakmfnammbaa
