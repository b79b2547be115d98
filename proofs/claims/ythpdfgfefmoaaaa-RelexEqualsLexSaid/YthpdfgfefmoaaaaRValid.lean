/- The reference's Valid: where it says yes the automaton is valid. -/
import Derived.Test.YthpdfgfefmoaaaaRText
namespace Go.Proofs.Ythpdfgfefmoaaaa
open Go.RowKit


set_option maxRecDepth 100000 in
set_option maxHeartbeats 1000000 in
theorem valid_any (v : DfaV) (d : Dfa) (B : Nat) (w : World) (hd : DfaAt w B v d) (hB : B ≤ w.heap.size) :
    Calls Try.prog 29 #[.agg #[.slice v.Ac v.nc v.cc, .slice v.An v.nn v.cn, .slice v.Aa v.na v.ca]] w (RetIf (∃ k, d.Ok k) w) := by
  have HD := Lib.hid (hd.more hB)
  have hbc := hd.bc
  have hbn := hd.bn
  have hba := hd.ba
  clear hd
  obtain ⟨Ac, nc, cc, An, nn, cn, Aa, na, ca⟩ := v
  simp only [maxLen] at *
  by_cases g1 : nc = 256
  case neg =>
    have t1 : ((nc : Int) != 256) = true := by simp; omega
    go_enter Try.func29, Try.ntmps29
    go_wp2_with fail
    go_ret
    exact ⟨false, rfl, by simp, (Below.refl _ _).alloc (Nat.le_refl _) _⟩
  subst g1
  by_cases g2 : (nn : Int) < 1
  case pos =>
    go_enter Try.func29, Try.ntmps29
    go_wp2_with fail
    go_ret
    exact ⟨false, rfl, by simp, (Below.refl _ _).alloc (Nat.le_refl _) _⟩
  by_cases g3 : (500 : Int) < nn
  case pos =>
    go_enter Try.func29, Try.ntmps29
    go_wp2_with fail
    go_ret
    exact ⟨false, rfl, by simp, (Below.refl _ _).alloc (Nat.le_refl _) _⟩
  by_cases g4 : na = nn
  case neg =>
    have t1 : ((na : Int) != (nn : Int)) = true := by simp; omega
    go_enter Try.func29, Try.ntmps29
    go_wp2_with fail
    go_ret
    exact ⟨false, rfl, by simp, (Below.refl _ _).alloc (Nat.le_refl _) _⟩
  subst g4
  have HD1 := Lib.hid (HD.out.alloc (Nat.le_refl _) (.cells (DfaV.cells ⟨Ac, 256, cc, An, na, cn, Aa, na, ca⟩) 25))
  simp only [DfaV.cells] at HD1
  obtain ⟨b0, o0, A0, n0, c0, r0, e0, _, hr0, z0, R0, hn0⟩ := HD1.out.row_at (i := 0) (by simp only; omega)
  simp only at e0
  subst e0
  unfold maxLen at hn0
  have p0 : 0 < na := by omega
  rw [Nat.add_zero] at z0
  have HR0 := Lib.hid hr0
  have HLN := Lib.hid HD1.out.len_next
  have HRL := Lib.hid R0.len_ints
  clear hr0 R0
  by_cases g5 : (n0 : Int) < 1
  · go_enter Try.func29, Try.ntmps29
    go_wp2_with fail
    go_ret
    exact ⟨false, rfl, by simp, (Below.refl _ _).alloc (Nat.le_refl _) _⟩
  · go_enter Try.func29, Try.ntmps29
    go_wp2_with fail
    go_loop [5] (fun a => ∃ i : Nat, i ≤ 256 ∧ a = .int .i64 i ∧ Hid (∀ j, j < i → 0 ≤ d.cls[j]?.getD 0 ∧ d.cls[j]?.getD 0 < n0)) (fun a => 256 - (intOf a).toNat)
    case atStart => exact ⟨0, by omega, rfl, fun j hj => absurd hj (by omega)⟩
    case round =>
      obtain ⟨i, hi, rfl, HI⟩ := hrel
      by_cases hlt : i < 256
      · obtain ⟨bc, oc, q2, l2, c2⟩ := HD1.out.cls.int_at (k := i) (by simp only; omega)
        simp only at q2
        subst q2
        by_cases t1 : d.cls[i]?.getD 0 < 0
        · go_wp2_with fail
          go_ret
          exact ⟨false, rfl, by simp, (Below.refl _ _).alloc (Nat.le_refl _) _⟩
        by_cases t2 : (n0 : Int) ≤ d.cls[i]?.getD 0
        · go_wp2_with fail
          go_ret
          exact ⟨false, rfl, by simp, (Below.refl _ _).alloc (Nat.le_refl _) _⟩
        go_wp2_with fail
        go_round
        case rel =>
          refine ⟨i + 1, by omega, by go_num, fun j hj => ?_⟩
          rcases Nat.lt_or_ge j i with h | h
          · exact HI.out j h
          · obtain rfl : j = i := by omega
            exact ⟨by omega, by omega⟩
        case measure => simp [intOf]; omega
      · obtain rfl : i = 256 := by omega
        go_wp2_with fail
        go_loop [6] (fun a => ∃ i : Nat, i ≤ na ∧ a = .int .i64 i ∧ Hid (∀ j, j < i → -1 ≤ d.acc[j]?.getD 0 ∧ (d.next[j]?.getD []).length = n0 ∧ ∀ c, c < n0 → -1 ≤ (d.next[j]?.getD [])[c]?.getD 0 ∧ (d.next[j]?.getD [])[c]?.getD 0 < na)) (fun a => na - (intOf a).toNat)
        case atStart => exact ⟨0, by omega, rfl, fun j hj => absurd hj (by omega)⟩
        case round =>
          obtain ⟨i, hi2, rfl, HN⟩ := hrel
          by_cases hlt : i < na
          · obtain ⟨b1, o1, A1, n1, c1, r1, e1, _, hr1, z1, R1, hn1⟩ := HD1.out.row_at (i := i) (by simp only; omega)
            simp only at e1
            injection e1 with e1
            injection e1 with e1 e1'
            subst e1; subst e1'
            obtain ⟨ba, oa, q3, l3, c3⟩ := HD1.out.acc.int_at (k := i) (by simp only; omega)
            simp only at q3
            subst q3
            unfold maxLen at hn1
            have HR1 := Lib.hid R1
            have HE1 := Lib.hid hr1
            clear R1 hr1
            by_cases t1 : n1 = n0
            case neg =>
              have t1' : ((n1 : Int) != (n0 : Int)) = true := by simp; omega
              go_wp2_with fail
              go_ret
              exact ⟨false, rfl, by simp, (Below.refl _ _).alloc (Nat.le_refl _) _⟩
            have t1' : ((n1 : Int) != (n0 : Int)) = false := by simp; omega
            by_cases t2 : d.acc[i]?.getD 0 < -1
            case pos =>
              subst t1
              go_wp2_with fail
              go_ret
              exact ⟨false, rfl, by simp, (Below.refl _ _).alloc (Nat.le_refl _) _⟩
            subst t1
            go_wp2_with fail
            go_loop [7] (fun a => ∃ c : Nat, c ≤ n1 ∧ a = .int .i64 c ∧ Hid (∀ j, j < c → -1 ≤ r1[j]?.getD 0 ∧ r1[j]?.getD 0 < na)) (fun a => n1 - (intOf a).toNat)
            case atStart => exact ⟨0, by omega, rfl, fun j hj => absurd hj (by omega)⟩
            case round =>
              obtain ⟨c, hc, rfl, HC⟩ := hrel
              by_cases hlc : c < n1
              · obtain ⟨b2, o2, q4, l4, c4⟩ := HR1.out.int_at hlc
                subst q4
                by_cases t3 : r1[c]?.getD 0 < -1
                · go_wp2_with fail
                  go_ret
                  exact ⟨false, rfl, by simp, (Below.refl _ _).alloc (Nat.le_refl _) _⟩
                by_cases t4 : (na : Int) ≤ r1[c]?.getD 0
                · go_wp2_with fail
                  go_ret
                  exact ⟨false, rfl, by simp, (Below.refl _ _).alloc (Nat.le_refl _) _⟩
                go_wp2_with fail
                go_round
                case rel =>
                  refine ⟨c + 1, by omega, by go_num, fun j hj => ?_⟩
                  rcases Nat.lt_or_ge j c with h | h
                  · exact HC.out j h
                  · obtain rfl : j = c := by omega
                    exact ⟨by omega, by omega⟩
                case measure => simp [intOf]; omega
              · obtain rfl : c = n1 := by omega
                go_wp2_with fail
                go_round
                case rel =>
                  refine ⟨i + 1, by omega, by go_num, fun j hj => ?_⟩
                  rcases Nat.lt_or_ge j i with h | h
                  · exact HN.out j h
                  · obtain rfl : j = i := by omega
                    refine ⟨by omega, ?_, ?_⟩
                    · rw [HE1.out]; exact HR1.out.len_ints
                    · rw [HE1.out]; exact HC.out
                case measure => simp [intOf]; omega
          · obtain rfl : i = na := by omega
            go_wp2_with fail
            go_ret
            refine ⟨true, rfl, fun _ => ⟨n0, ?_⟩, (Below.refl _ _).alloc (Nat.le_refl _) _⟩
            have hl := HLN.out
            have hc := HD1.out.cls.len_ints
            have hac := HD1.out.acc.len_ints
            simp only at hl hc hac
            refine ⟨hc, fun j x hx => ?_, by omega, by omega, fun j r hr => ?_, fun j x hx => ?_⟩
            · obtain ⟨hj, _⟩ := List.getElem?_eq_some_iff.1 hx
              have := HI.out j (by omega)
              rw [hx] at this
              exact this
            · obtain ⟨hj, _⟩ := List.getElem?_eq_some_iff.1 hr
              have := HN.out j (by omega)
              rw [hr] at this
              refine ⟨this.2.1, fun c x hx => ?_⟩
              obtain ⟨hcj, _⟩ := List.getElem?_eq_some_iff.1 hx
              have h2 := this.2.2 c (by have := this.2.1; simp at this; omega)
              simp only [Option.getD_some, hx] at h2
              rw [hl]
              exact h2
            · obtain ⟨hj, _⟩ := List.getElem?_eq_some_iff.1 hx
              have := HN.out j (by omega)
              rw [hx] at this
              exact this.1
end Go.Proofs.Ythpdfgfefmoaaaa
