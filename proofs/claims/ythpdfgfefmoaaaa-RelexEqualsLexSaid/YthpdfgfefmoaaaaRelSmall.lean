/- The retained tokens at the beginning; where a token begins and ends: the program's functions and the reference's. -/
import Derived.Test.YthpdfgfefmoaaaaRelPlain
namespace Go.Proofs.Ythpdfgfefmoaaaa
open Go.RowKit

set_option maxHeartbeats 1000000 in
theorem prefix_any (A : Option Addr) (n c B : Nat) (d : Dfa) (s : ByteArray) (x : Int) (w : World) (hl : Reads w B 4 A n (toks (lexL d s))) (hn : n ≤ maxLen) (hs : s.size ≤ 1048576) :
    Calls Try.prog 24 #[.slice A n c, .int .i64 x] w fun e w' => e = .returned (.int .i64 (preL x (lexL d s) : Nat)) ∧ ∃ nd, w' = w.drewN nd := by
  unfold maxLen at hn
  have HL := Lib.hid hl
  have hln := hl.len_toks
  clear hl
  go_enter Try.func24, Try.ntmps24
  go_wp2_with fail
  go_loopw [5] (fun a wr => ∃ i : Nat, i ≤ n ∧ a = .int .i64 i ∧ (∃ nd, wr = w.drewN nd) ∧ Hid (∀ (j : Nat) (t : Tok), j < i → (lexL d s)[j]? = some t → t.pos + t.look ≤ x)) (fun a _ => n - (intOf a).toNat)
  case atStart => exact ⟨0, by omega, rfl, ⟨0, rfl⟩, fun j t hj => absurd hj (by omega)⟩
  case round =>
    obtain ⟨i, hi, rfl, ⟨nd, rfl⟩, HJ⟩ := hrel
    by_cases hlt : i < n
    · have hltI : (i : Int) < (n : Int) := by omega
      have hltD : decide (i < n) = true := by simp [hlt]
      obtain ⟨b, off, y, rfl, _, hy, h0, h1, h2, h3⟩ := HL.out.tok_at hlt
      have hyp := lexL_pos d s hy
      have hyl := lexL_look d s hy
      have hya := (lexL_at d s hy).1
      generalize offs (lexL d s) i = o at hyp hyl hya
      have HY := Lib.hid hy
      obtain ⟨yk, yp, yt, yl⟩ := y
      simp only at hyp hyl h0 h1 h2 h3
      subst hyp
      have w1 : IntKind.i64.wrap ((o : Int) + yl) = (o : Int) + yl := IntWalk.i64_in _ (by omega)
      clear hy hyl
      by_cases hcond : (o : Int) + yl ≤ x
      · have hcD : decide ((o : Int) + yl ≤ x) = true := by simp [hcond]
        go_wp2_with fail
        go_quiet (fail)
        go_wp2_with fail
        go_roundw
        case rel =>
          refine ⟨i + 1, by omega, by go_num, by (try simp only [World.drewN_drewN]); exact drew1 _ _, fun j t hj ht => ?_⟩
          rcases Nat.lt_or_ge j i with h | h
          · exact HJ.out j t h ht
          · obtain rfl : j = i := by omega
            have e1 := ht.symm.trans HY.out
            injection e1 with e1
            subst e1
            exact hcond
        case measure => simp [intOf]; omega
      · have hcD : decide ((o : Int) + yl ≤ x) = false := by simp; omega
        have he := preL_eq (a := x) (n := i) (by omega) HJ.out (fun t ht => by
          have e1 := ht.symm.trans HY.out
          injection e1 with e1
          subst e1
          simp only
          omega)
        subst he
        go_wp2_with fail
        go_quiet (fail)
        go_wp2_with fail
        go_ret
        exact ⟨rfl, by (try simp only [World.drewN_drewN]); exact drew1 _ _⟩
    · have hltI : ¬ (i : Int) < (n : Int) := by omega
      have hltD : decide (i < n) = false := by simp [hlt]
      have he := preL_eq (a := x) (n := i) (by omega) HJ.out (fun t ht => by
        rw [List.getElem?_eq_none (by omega)] at ht
        injection ht)
      subst he
      go_wp2_with fail
      go_quiet (fail)
      go_wp2_with fail
      go_ret
      exact ⟨rfl, by (try simp only [World.drewN_drewN]); exact drew1 _ _⟩

set_option maxHeartbeats 1000000 in
theorem refPrefix_any (A : Option Addr) (n c B : Nat) (d : Dfa) (s : ByteArray) (x : Int) (w : World) (hl : Reads w B 4 A n (toks (lexL d s))) (hn : n ≤ maxLen) (hs : s.size ≤ 1048576) :
    Calls Try.prog 27 #[.slice A n c, .int .i64 x] w fun e w' => e = .returned (.int .i64 (preL x (lexL d s) : Nat)) ∧ ∃ nd, w' = w.drewN nd := by
  unfold maxLen at hn
  have HL := Lib.hid hl
  have hln := hl.len_toks
  clear hl
  go_enter Try.func27, Try.ntmps27
  go_wp2_with fail
  go_loopw [5] (fun a wr => ∃ i : Nat, i ≤ n ∧ a = .int .i64 i ∧ (∃ nd, wr = w.drewN nd) ∧ Hid (∀ (j : Nat) (t : Tok), j < i → (lexL d s)[j]? = some t → t.pos + t.look ≤ x)) (fun a _ => n - (intOf a).toNat)
  case atStart => exact ⟨0, by omega, rfl, ⟨0, rfl⟩, fun j t hj => absurd hj (by omega)⟩
  case round =>
    obtain ⟨i, hi, rfl, ⟨nd, rfl⟩, HJ⟩ := hrel
    by_cases hlt : i < n
    · have hltI : (i : Int) < (n : Int) := by omega
      have hltD : decide (i < n) = true := by simp [hlt]
      obtain ⟨b, off, y, rfl, _, hy, h0, h1, h2, h3⟩ := HL.out.tok_at hlt
      have hyp := lexL_pos d s hy
      have hyl := lexL_look d s hy
      have hya := (lexL_at d s hy).1
      generalize offs (lexL d s) i = o at hyp hyl hya
      have HY := Lib.hid hy
      obtain ⟨yk, yp, yt, yl⟩ := y
      simp only at hyp hyl h0 h1 h2 h3
      subst hyp
      have w1 : IntKind.i64.wrap ((o : Int) + yl) = (o : Int) + yl := IntWalk.i64_in _ (by omega)
      clear hy hyl
      by_cases hcond : (o : Int) + yl ≤ x
      · have hcD : decide ((o : Int) + yl ≤ x) = true := by simp [hcond]
        go_wp2_with fail
        go_quiet (fail)
        go_wp2_with fail
        go_roundw
        case rel =>
          refine ⟨i + 1, by omega, by go_num, by (try simp only [World.drewN_drewN]); exact drew1 _ _, fun j t hj ht => ?_⟩
          rcases Nat.lt_or_ge j i with h | h
          · exact HJ.out j t h ht
          · obtain rfl : j = i := by omega
            have e1 := ht.symm.trans HY.out
            injection e1 with e1
            subst e1
            exact hcond
        case measure => simp [intOf]; omega
      · have hcD : decide ((o : Int) + yl ≤ x) = false := by simp; omega
        have he := preL_eq (a := x) (n := i) (by omega) HJ.out (fun t ht => by
          have e1 := ht.symm.trans HY.out
          injection e1 with e1
          subst e1
          simp only
          omega)
        subst he
        go_wp2_with fail
        go_quiet (fail)
        go_wp2_with fail
        go_ret
        exact ⟨rfl, by (try simp only [World.drewN_drewN]); exact drew1 _ _⟩
    · have hltI : ¬ (i : Int) < (n : Int) := by omega
      have hltD : decide (i < n) = false := by simp [hlt]
      have he := preL_eq (a := x) (n := i) (by omega) HJ.out (fun t ht => by
        rw [List.getElem?_eq_none (by omega)] at ht
        injection ht)
      subst he
      go_wp2_with fail
      go_quiet (fail)
      go_wp2_with fail
      go_ret
      exact ⟨rfl, by (try simp only [World.drewN_drewN]); exact drew1 _ _⟩

set_option maxHeartbeats 400000 in
theorem end_any (k p l : Int) (t : ByteArray) (w : World) (hp : 0 ≤ p ∧ p ≤ 1048576) (ht : t.size ≤ 1048576) :
    Calls Try.prog 26 #[.agg #[.int .i64 k, .int .i64 p, .string t, .int .i64 l]] w fun e w' => e = .returned (.int .i64 (p + t.size)) ∧ Below w.heap.size w w' := by
  go_enter Try.func26, Try.ntmps26
  go_wp2_with fail
  go_ret
  exact ⟨rfl, (Below.refl _ _).alloc (Nat.le_refl _) _⟩

set_option maxHeartbeats 400000 in
theorem start_any (A : Option Addr) (n c B i : Nat) (d : Dfa) (s : ByteArray) (w : World) (hl : Reads w B 4 A n (toks (lexL d s))) (hn : n ≤ maxLen) (hs : s.size ≤ 1048576) (hi : i ≤ n) :
    Calls Try.prog 25 #[.slice A n c, .int .i64 i] w fun e w' => e = .returned (.int .i64 (offs (lexL d s) i : Nat)) ∧ Below w.heap.size w w' := by
  unfold maxLen at hn
  have hln := hl.len_toks
  by_cases hlt : i < n
  · obtain ⟨b, off, y, rfl, _, hy, h0, h1, h2, h3⟩ := hl.tok_at hlt
    have hyp := lexL_pos d s hy
    have hltD : decide (i < n) = true := by simp [hlt]
    generalize offs (lexL d s) i = o at hyp
    obtain ⟨yk, yp, yt, yl⟩ := y
    simp only at hyp h0 h1 h2 h3
    subst hyp
    clear hy hl
    go_enter Try.func25, Try.ntmps25
    go_wp2_with fail
    go_ret
    exact ⟨rfl, Below.refl _ _⟩
  · have hltD : decide (i < n) = false := by simp [hlt]
    obtain rfl : i = n := by omega
    by_cases h0 : i = 0
    · subst h0
      rw [offs_zero]
      clear hl
      go_enter Try.func25, Try.ntmps25
      go_wp2_with fail
      go_ret
      exact ⟨rfl, Below.refl _ _⟩
    · have h0D : ((i : Int) == 0) = false := by rw [beq_eq_false_iff_ne]; omega
      obtain ⟨m, rfl⟩ : ∃ m, i = m + 1 := ⟨i - 1, by omega⟩
      obtain ⟨b, off, y, rfl, _, hy, k0, k1, k2, k3⟩ := hl.tok_at (k := m) (by omega)
      have hyp := lexL_pos d s hy
      have hys := lexL_size d s hy
      have HO : Hid ((offs (lexL d s) (m + 1) : Int) = (offs (lexL d s) m : Int) + (y.text.size : Int)) := by show _ = _; omega
      generalize offs (lexL d s) m = o at hyp hys HO
      obtain ⟨yk, yp, yt, yl⟩ := y
      simp only at hyp hys k0 k1 k2 k3 HO
      subst hyp
      have w1 : IntKind.i64.wrap (((m + 1 : Nat) : Int) - 1) = (m : Int) := by rw [IntWalk.i64_in _ (by omega)]; omega
      have w2 : (0 : Int) ≤ (m : Int) := by omega
      have w3 : (m : Int) < ((m + 1 : Nat) : Int) := by omega
      clear hy hl h0
      go_enter Try.func25, Try.ntmps25
      go_wp2_with (go_at_call 26; refine (end_any yk o yl yt _ (by omega) (by omega)).mono ?_; rintro e w1 ⟨rfl, hb1⟩)
      go_ret
      exact ⟨ret_int HO.out.symm, hb1⟩

/-- What the reference's start finds: the token that begins at an offset, the number of tokens for the end, or -1. -/
def FindAt (l : List Tok) (x : Int) (r : Int) : Prop := (∃ k : Nat, r = k ∧ k ≤ l.length ∧ (offs l k : Int) = x) ∨ (r = -1 ∧ ∀ k : Nat, k ≤ l.length → (offs l k : Int) ≠ x)
set_option maxHeartbeats 1000000 in
theorem refStart_any (A : Option Addr) (n c B : Nat) (d : Dfa) (s : ByteArray) (x : Int) (w : World) (hl : Reads w B 4 A n (toks (lexL d s))) (hn : n ≤ maxLen) :
    Calls Try.prog 28 #[.slice A n c, .int .i64 s.size, .int .i64 x] w fun e w' => (∃ r, e = .returned (.int .i64 r) ∧ FindAt (lexL d s) x r) ∧ w' = w := by
  unfold maxLen at hn
  have HL := Lib.hid hl
  have hln := hl.len_toks
  have HEND := Lib.hid (lexL_end d s)
  clear hl
  go_enter Try.func28, Try.ntmps28
  go_wp2_with fail
  go_loop [7] (fun a => ∃ i : Nat, i ≤ n ∧ a = .int .i64 i ∧ Hid (∀ j : Nat, j < i → (offs (lexL d s) j : Int) ≠ x)) (fun a => n - (intOf a).toNat)
  case atStart => exact ⟨0, by omega, rfl, fun j hj => absurd hj (by omega)⟩
  case round =>
    obtain ⟨i, hi, rfl, HJ⟩ := hrel
    by_cases hlt : i < n
    · have hltD : decide (i < n) = true := by simp [hlt]
      obtain ⟨b, off, y, rfl, _, hy, h0, h1, h2, h3⟩ := HL.out.tok_at hlt
      have hyp := lexL_pos d s hy
      have HO : Hid (∃ o : Nat, o = offs (lexL d s) i) := ⟨_, rfl⟩
      obtain ⟨o, ho⟩ := HO
      rw [← ho] at hyp
      have HO := Lib.hid ho
      obtain ⟨yk, yp, yt, yl⟩ := y
      simp only at hyp h0 h1 h2 h3
      subst hyp
      clear hy ho
      by_cases hc : (o : Int) = x
      · have hcD : ((o : Int) == x) = true := by rw [beq_iff_eq]; exact hc
        have HC := Lib.hid hc
        clear hc
        go_wp2_with fail
        go_ret
        exact ⟨⟨_, rfl, Or.inl ⟨i, rfl, by omega, by rw [← HO.out]; exact HC.out⟩⟩, rfl⟩
      · have hcD : ((o : Int) == x) = false := by rw [beq_eq_false_iff_ne]; exact hc
        have HC := Lib.hid hc
        clear hc
        go_wp2_with fail
        go_round
        case rel =>
          refine ⟨i + 1, by omega, by go_num, fun j hj => ?_⟩
          rcases Nat.lt_or_ge j i with h | h
          · exact HJ.out j h
          · obtain rfl : j = i := by omega
            rw [← HO.out]; exact HC.out
        case measure => simp [intOf]; omega
    · have hltD : decide (i < n) = false := by simp [hlt]
      obtain rfl : i = n := by omega
      by_cases hc : x = (s.size : Int)
      · subst hc
        have hcD : ((s.size : Int) == (s.size : Int)) = true := beq_self_eq_true _
        go_wp2_with fail
        go_ret
        exact ⟨⟨_, rfl, Or.inl ⟨i, rfl, by omega, by have := HEND.out; rw [hln] at this; rw [this]⟩⟩, rfl⟩
      · have hcD : (x == (s.size : Int)) = false := by rw [beq_eq_false_iff_ne]; exact hc
        have HC := Lib.hid hc
        clear hc
        go_wp2_with fail
        go_ret
        refine ⟨⟨_, rfl, Or.inr ⟨rfl, fun k hk => ?_⟩⟩, rfl⟩
        rcases Nat.lt_or_ge k i with h | h
        · exact HJ.out k h
        · obtain rfl : k = i := by omega
          have := HEND.out
          rw [hln] at this
          rw [this]
          exact fun e => HC.out e.symm
end Go.Proofs.Ythpdfgfefmoaaaa
