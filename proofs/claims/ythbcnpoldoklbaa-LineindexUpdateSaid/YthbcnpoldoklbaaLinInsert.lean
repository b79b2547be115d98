/- LineindexInsert returns true for every input. -/
import Derived.Test.YthbcnpoldoklbaaLinUpd
import Derived.Test.YthbcnpoldoklbaaEdBl
namespace Go.Proofs.Ythbcnpoldoklbaa
open Go.RowKit

/-- How many line feeds. -/
def nls (l : List UInt8) : Nat := (l.filter fun c => c == 10).length
theorem nls_append (l m : List UInt8) : nls (l ++ m) = nls l + nls m := by simp [nls]
theorem nls_le (l : List UInt8) : nls l ≤ l.length := List.length_filter_le _ _
theorem nls_snoc {l : List UInt8} {k : Nat} {c : UInt8} (h : l[k]? = some c) : nls (l.take (k + 1)) = nls (l.take k) + if c == 10 then 1 else 0 := by
  rw [List.take_add_one, h, Option.toList_some, nls_append]
  congr 1
  simp only [nls, List.filter_cons, List.filter_nil]
  split <;> rfl
theorem nlAt_eq {s : ByteArray} {k : Nat} {c : UInt8} (h : (bl s)[k]? = some c) : nlAt s k = (c == 10) := by
  unfold nlAt byteAt
  have : s.data[k]? = some c := by rw [← Array.getElem?_toList]; exact h
  rw [this]
  rfl
theorem startsTo_nls (s : ByteArray) : ∀ k, k ≤ s.size → (startsTo s k).length = nls ((bl s).take k)
  | 0, _ => rfl
  | k + 1, h => by
    have hl : k < (bl s).length := by rw [bl_length]; omega
    have h0 := List.getElem?_eq_getElem hl
    have ih := startsTo_nls s k (by omega)
    rw [startsTo_succ, nls_snoc h0, nlAt_eq h0, ← ih]
    split <;> simp
theorem starts_nls (s : ByteArray) : (starts s).length = nls (bl s) := by
  unfold starts
  rw [startsTo_nls s s.size (Nat.le_refl _), List.take_of_length_le (by rw [bl_length]; exact Nat.le_refl _)]
theorem insert_nls (s t : ByteArray) (p : Nat) (hp : p ≤ s.size) : Ed.ok s.size ⟨p, 0, t⟩ = true ∧ (starts (apT s ⟨p, 0, t⟩)).length = (starts s).length + nls (bl t) := by
  have hok : Ed.ok s.size ⟨p, 0, t⟩ = true := Ed.ok_iff.2 ⟨by simp, by simp, by simp only; omega, by simp only; omega⟩
  refine ⟨hok, ?_⟩
  rw [starts_nls, starts_nls, bl_apT hok, nls_append, nls_append]
  simp only [Int.toNat_natCast, Int.toNat_zero, Nat.add_zero]
  have := nls_append ((bl s).take p) ((bl s).drop p)
  rw [List.take_append_drop] at this
  omega

theorem Below.size_le {B N : Nat} {w w' : World} (h : Below B w w') (hN : N ≤ w.heap.size) : N ≤ w'.heap.size := Nat.le_trans hN h.size
theorem size_al {w : World} {N : Nat} {o : Obj} (h : N ≤ w.heap.size) : N ≤ (w.alloc o).drew.heap.size := by show N ≤ (w.alloc o).heap.size; simp; omega
theorem keepU {w w' : World} {g : Nat} {x y : Value} (h0 : w.cell? ⟨g, 0, none⟩ = some x) (h1 : w.cell? ⟨g, 1, none⟩ = some y) (hb : Below (g + 1) w w') :
    w'.cell? ⟨g, 0, none⟩ = some x ∧ w'.cell? ⟨g, 1, none⟩ = some y ∧ Below (g + 1) w w' :=
  ⟨(hb.cell (p := ⟨g, 0, none⟩) (Nat.lt_succ_self _)).trans h0, (hb.cell (p := ⟨g, 1, none⟩) (Nat.lt_succ_self _)).trans h1, hb⟩
theorem keepU2 {w w' : World} {g n5 : Nat} {x y z u : Value} (h0 : w.cell? ⟨g, 0, none⟩ = some x) (h1 : w.cell? ⟨g, 1, none⟩ = some y) (h2 : w.cell? ⟨n5, 0, none⟩ = some z) (h3 : w.cell? ⟨n5, 1, none⟩ = some u) (hg : g + 1 ≤ n5) (hb : Below (n5 + 1) w w') :
    w'.cell? ⟨g, 0, none⟩ = some x ∧ w'.cell? ⟨g, 1, none⟩ = some y ∧ w'.cell? ⟨n5, 0, none⟩ = some z ∧ w'.cell? ⟨n5, 1, none⟩ = some u ∧ Below (n5 + 1) w w' :=
  ⟨(hb.cell (p := ⟨g, 0, none⟩) (by show g < n5 + 1; omega)).trans h0, (hb.cell (p := ⟨g, 1, none⟩) (by show g < n5 + 1; omega)).trans h1, (hb.cell (p := ⟨n5, 0, none⟩) (Nat.lt_succ_self _)).trans h2, (hb.cell (p := ⟨n5, 1, none⟩) (Nat.lt_succ_self _)).trans h3, hb⟩
theorem apF_ok' {s : ByteArray} {e : Ed} (h : e.ok s.size = true) : apF s e = 0 := by simp [apF, h]
theorem newcellsU {w w2 : World} (hb : Below (w.alloc (.cells #[.string ⟨#[]⟩, .slice none 0 0] 25)).drew.heap.size (w.alloc (.cells #[.string ⟨#[]⟩, .slice none 0 0] 25)).drew w2) :
    w2.cell? ⟨w.heap.size, 0, none⟩ = some (.string ⟨#[]⟩) ∧ w2.cell? ⟨w.heap.size, 1, none⟩ = some (.slice none 0 0) ∧ w2.frozen? ⟨w.heap.size, 0, none⟩ = false ∧ w2.frozen? ⟨w.heap.size, 1, none⟩ = false := by
  have N := ((Blk.new' w 25 #[.string ⟨#[]⟩, .slice none 0 0] rfl).drewN 1).below hb (by show w.heap.size < (w.alloc _).heap.size; simp)
  exact ⟨N.cell 0, N.cell 1, N.frozen 0, N.frozen 1⟩

set_option maxRecDepth 100000 in
set_option maxHeartbeats 2000000 in
theorem lawInsert_any (s t : ByteArray) (x : Int) (w : World) (_hs : s.size ≤ maxLen) (_ht : t.size ≤ maxLen) (hx2 : 0 ≤ x ∧ x ≤ 65535) : Calls Try.prog 8 #[.string s, .string t, .int .u16 x] w fun e w' => e = .returned (.bool true) ∧ Below w.heap.size w w' := by
  by_cases hs : s.size ≤ 200
  case neg =>
    have d0 : decide ((200 : Int) < s.size) = true := by simp; omega
    have d1 : decide (200 < s.size) = true := by simp; omega
    go_enter Try.func8, Try.ntmps8
    go_wp2_with fail
    refine (awake_any _).mono ?_
    rintro e w1 ⟨rfl, hb1⟩
    go_wp2_with fail
    go_ret
    exact ⟨rfl, hb1⟩
  have d0 : decide ((200 : Int) < s.size) = false := by simp; omega
  have d1 : decide (200 < s.size) = false := by simp; omega
  by_cases ht : t.size ≤ 50
  case neg =>
    have e0 : decide ((50 : Int) < t.size) = true := by simp; omega
    have e1 : decide (50 < t.size) = true := by simp; omega
    go_enter Try.func8, Try.ntmps8
    go_wp2_with fail
    refine (awake_any _).mono ?_
    rintro e w1 ⟨rfl, hb1⟩
    go_wp2_with fail
    go_ret
    exact ⟨rfl, hb1⟩
  have e0 : decide ((50 : Int) < t.size) = false := by simp; omega
  have e1 : decide (50 < t.size) = false := by simp; omega
  obtain ⟨k0, rfl⟩ := Int.eq_ofNat_of_zero_le hx2.1
  have hk0 : k0 ≤ 65535 := by omega
  clear hx2 _hs _ht
  obtain ⟨p, hp⟩ : ∃ p, k0 % (s.size + 1) = p := ⟨_, rfl⟩
  have hps : p ≤ s.size := by have := Nat.mod_lt k0 (show 0 < s.size + 1 by omega); omega
  obtain ⟨hok, hcnt⟩ := insert_nls s t p hps
  have HOK := Lib.hid hok
  have HCNT := Lib.hid hcnt
  have HP := Lib.hid hp
  clear hok hcnt hp
  go_enter Try.func8, Try.ntmps8
  go_wp2_with fail
  go_loop [7, 8] (fun a b => ∃ k : Nat, k ≤ t.size ∧ b = .int .i64 k ∧ ∃ m : Nat, m ≤ k ∧ a = .int .i64 m ∧ Hid (m = nls ((bl t).take k))) (fun _ b => t.size - (intOf b).toNat)
  case atStart => exact ⟨0, Nat.zero_le _, rfl, 0, Nat.le_refl _, rfl, rfl⟩
  case round =>
    obtain ⟨k, hk, rfl, m, hm, rfl, HM⟩ := hrel
    by_cases hlt : k < t.size
    · have hl : k < (bl t).length := by rw [bl_length]; exact hlt
      have hsn := nls_snoc (List.getElem?_eq_getElem hl)
      have hb : (bl t)[k] = t[k] := rfl
      rw [hb] at hsn
      have HSN := Lib.hid hsn
      clear hsn hb
      cases hc : (t[k] == 10) with
      | true =>
        have c1 : ((t[k].toNat : Int) == 10) = true := by
          have := (beq_iff_eq.1 hc)
          rw [this]; rfl
        have HC := Lib.hid hc
        clear hc
        go_wp2_with fail
        go_round
        case rel => exact ⟨k + 1, by omega, by go_num, m + 1, by omega, by go_num, by have h1 := HSN.out; have h2 := HM.out; rw [HC.out, if_pos rfl] at h1; show _ = _; omega⟩
        case measure => simp [intOf]; omega
      | false =>
        have c1 : ((t[k].toNat : Int) == 10) = false := by
          rw [beq_eq_false_iff_ne]
          intro h
          have h2 : t[k].toNat = 10 := by omega
          have h3 : t[k] = 10 := UInt8.toNat_inj.1 h2
          rw [h3] at hc
          cases hc
        have HC := Lib.hid hc
        clear hc
        go_wp2_with fail
        go_round
        case rel => exact ⟨k + 1, by omega, by go_num, m, by omega, rfl, by have h1 := HSN.out; have h2 := HM.out; rw [HC.out] at h1; simp only [Bool.false_eq_true, if_false, Nat.add_zero] at h1; show _ = _; omega⟩
        case measure => simp [intOf]; omega
    · have hkt : k = t.size := by omega
      have hm2 : m = nls (bl t) := by
        have := HM.out
        rw [List.take_of_length_le (by rw [bl_length]; omega)] at this
        exact this
      have HM2 := Lib.hid hm2
      clear hm2 HM
      subst hkt
      go_wp2_with fail
      refine (new_any s _ (by omega)).mono ?_
      rintro e w1 ⟨A, n, c, rfl, hn, R1, hb1⟩
      go_wp2_with fail
      have hnl : n = (starts s).length := R1.nats_len.symm
      have hnb : n ≤ 200 := by
        rw [hnl]
        have := startsTo_length s s.size
        unfold starts
        omega
      have HNL := Lib.hid hnl
      have K1 := Blk.new' w1 25 #[.string s, .slice A n c] rfl
      have hz1 : w1.heap.size + 1 ≤ (w1.alloc (.cells #[.string s, .slice A n c] 25)).heap.size := by simp
      have hb1' := hb1.alloc hb1.size (.cells #[.string s, .slice A n c] 25)
      have hsz1 := hb1.size
      have v1 : IntKind.i64.wrap ((s.size : Int) + 1) = (s.size : Int) + 1 := IntWalk.i64_in _ (by omega)
      have v2 : (k0 : Int).tmod ((s.size : Int) + 1) = (p : Int) := by
        rw [← HP.out, Int.tmod_eq_emod_of_nonneg (by omega)]
        exact (Int.natCast_emod k0 (s.size + 1)).symm
      obtain ⟨g, hg⟩ : ∃ g, w1.heap.size = g := ⟨_, rfl⟩
      rw [hg] at K1 hz1 hsz1 ⊢
      generalize w1.alloc (.cells #[.string s, .slice A n c] 25) = W1 at *
      have hlt1 := K1.lt
      have k1 := K1.cell 0
      have k2 := K1.cell 1
      simp at k1 k2
      clear R1 hb1 hnl hg
      have hz0 : g + 1 ≤ W1.drew.heap.size := hz1
      have v3 : k0 % (s.size + 1) = p := HP.out
      have v4 : IntKind.i64.wrap (k0 : Int) = (k0 : Int) := IntWalk.i64_in _ (by omega)
      have v5 : IntKind.i64.wrap (p : Int) = (p : Int) := IntWalk.i64_in _ (by omega)
      have v6 : ((s.size : Int) + 1 == 0) = false := by rw [beq_eq_false_iff_ne]; omega
      have v7 : ¬ ((s.size : Int) + 1 = 0) := by omega
      have v8 : (k0 : Int) % ((s.size : Int) + 1) = (p : Int) := by rw [← v3]; exact (Int.natCast_emod k0 (s.size + 1)).symm
      have hza : g + 1 ≤ (W1.alloc (.cells #[.string ⟨#[]⟩, .slice none 0 0] 25)).drew.heap.size := size_al hz1
      go_region_held3 (fun w' => w'.cell? ⟨g, 0, none⟩ = some (.string s) ∧ w'.cell? ⟨g, 1, none⟩ = some (.slice A n c) ∧ Below (g + 1) W1 w')
        (first | exact keepU k1 k2 ((Below.refl _ _).drew) | exact keepU k1 k2 (((Below.refl _ W1).alloc hz1 _).drew) | exact keepU k1 k2 X3 | exact keepU k1 k2 (X3.alloc X3z _) | exact keepU k1 k2 ((X3.setCell hz1 _).setCell hz1 _))
        (first | (go_at_call 20; refine (update_any s _ p 0 t _ (by omega) ⟨_, _, _, rfl⟩).mono ?_; rintro e w2 ⟨A2, n2, c2, rfl, hn2, Q2, hb2⟩; have X3 : Below (g + 1) W1 w2 := ((Below.refl _ W1).drew).trans (hb2.mono (hz0)); have X3z : g + 1 ≤ w2.heap.size := Below.size_le X3 hz1) | (go_at_call 20; refine (update_any s _ p 0 t _ (by omega) ⟨_, _, _, rfl⟩).mono ?_; rintro e w2 ⟨A2, n2, c2, rfl, hn2, Q2, hb2⟩; have X3 : Below (g + 1) W1 w2 := (((Below.refl _ W1).alloc hz1 _).drew).trans (hb2.mono (hza)); have X3z : g + 1 ≤ w2.heap.size := Below.size_le X3 hz1; obtain ⟨n0, n1, m0, m1⟩ := newcellsU hb2))
      all_goals first
        | (have Q1 := (((Blk.new' (g := W1.heap.size) W1 25 #[.string ⟨#[]⟩, .slice none 0 0] rfl).drewN 1).below hb2 (by show W1.heap.size < (W1.alloc _).heap.size; simp)).set2 (.string (apT s ⟨p, 0, t⟩)) (.slice A2 n2 c2)
           have Q3 := (X3.setCell (p := ⟨W1.heap.size, 0, none⟩) hz1 (.string (apT s ⟨p, 0, t⟩))).setCell (p := ⟨W1.heap.size, 1, none⟩) hz1 (.slice A2 n2 c2)
           have Q4 := hz1
           have HN2 := Lib.hid (Q2 HOK.out).nats_len
           clear Q2 X3 X3z n0 n1 m0 m1 hb2
           generalize (w2.setCell ⟨W1.heap.size, 0, none⟩ (.string (apT s ⟨p, 0, t⟩))).setCell ⟨W1.heap.size, 1, none⟩ (.slice A2 n2 c2) = W3 at *
           generalize W1.heap.size = n5 at *)
        | (have Q1 := Blk.new' (g := w2.heap.size) w2 25 #[.string (apT s ⟨p, 0, t⟩), .slice A2 n2 c2] rfl
           have Q3 := X3.alloc X3z (.cells #[.string (apT s ⟨p, 0, t⟩), .slice A2 n2 c2] 25)
           have Q4 := X3z
           have HN2 := Lib.hid (Q2 HOK.out).nats_len
           clear Q2 X3 X3z hb2
           generalize w2.alloc (.cells #[.string (apT s ⟨p, 0, t⟩), .slice A2 n2 c2] 25) = W3 at *
           generalize w2.heap.size = n5 at *)
      all_goals
        have K3 := K1.below Q3 (by omega)
        have hz3 := Q1.lt
        have hn2 : n2 = n + m := by
          have h1 := HN2.out
          have h2 := HCNT.out
          have h3 := HNL.out
          have h4 := HM2.out
          omega
        have HF := Lib.hid (apF_ok' HOK.out)
        rw [HF.out]
        clear k1 k2 v1 v2 v3 v4 v5 v6 v7 v8
        have k1 := K3.cell 0
        have k2 := K3.cell 1
        have k3 := Q1.cell 0
        have k4 := Q1.cell 1
        simp at k1 k2 k3 k4
        have v1 : IntKind.i64.wrap ((n : Int) + 1 + m) = (n : Int) + 1 + m := IntWalk.i64_in _ (by omega)
        have v2 : ((n2 : Int) + 1 == (n : Int) + 1 + m) = true := by rw [beq_iff_eq]; omega
        have hnn : n2 ≤ 1048577 := by omega
        have hnm : n ≤ 1048577 := by omega
        clear hn2
        go_wp2_with fail
        go_region_held3 (fun w' => w'.cell? ⟨g, 0, none⟩ = some (.string s) ∧ w'.cell? ⟨g, 1, none⟩ = some (.slice A n c) ∧ w'.cell? ⟨n5, 0, none⟩ = some (.string (apT s ⟨p, 0, t⟩)) ∧ w'.cell? ⟨n5, 1, none⟩ = some (.slice A2 n2 c2) ∧ Below (n5 + 1) W3 w')
          (first | exact keepU2 k1 k2 k3 k4 Q4 ((Below.refl _ _).drew) | exact keepU2 k1 k2 k3 k4 Q4 X4)
          (first | (go_at_call 10; refine (awake_any _).mono ?_; rintro e w4 ⟨rfl, hb4⟩; have X4 : Below (n5 + 1) W3 w4 := (X4).trans (hb4.mono (Below.size_le X4 hz3))) | (go_at_call 10; refine (awake_any _).mono ?_; rintro e w4 ⟨rfl, hb4⟩; have X4 : Below (n5 + 1) W3 w4 := ((Below.refl _ W3).drew).trans (hb4.mono (hz3))) | (go_at_call 19; refine (lines_any _ _ _ _ _ (by omega)).mono ?_; rintro e w4 ⟨rfl, hb4⟩; have X4 : Below (n5 + 1) W3 w4 := (X4).trans (hb4.mono (Below.size_le X4 hz3))) | (go_at_call 19; refine (lines_any _ _ _ _ _ (by omega)).mono ?_; rintro e w4 ⟨rfl, hb4⟩; have X4 : Below (n5 + 1) W3 w4 := ((Below.refl _ W3).drew).trans (hb4.mono (hz3))))
        all_goals
          go_wp2_with fail
          go_ret
          exact ⟨rfl, (hb1'.trans (Q3.mono (by omega))).trans (X4.mono (by omega))⟩
end Go.Proofs.Ythbcnpoldoklbaa
