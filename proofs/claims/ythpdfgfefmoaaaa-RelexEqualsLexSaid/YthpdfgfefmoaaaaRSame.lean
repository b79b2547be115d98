/- The comparison of two lists of tokens returns whether they are equal. -/
import Derived.Test.YthpdfgfefmoaaaaTok
namespace Go.Proofs.Ythpdfgfefmoaaaa
open Go.RowKit


def sameT : List Tok → List Tok → Bool
  | [], [] => true
  | a :: l, b :: m => a.eqb b && sameT l m
  | _, _ => false
theorem sameT_len : ∀ {l m : List Tok}, l.length ≠ m.length → sameT l m = false
  | [], [], h => by simp at h
  | [], _ :: _, _ => rfl
  | _ :: _, [], _ => rfl
  | a :: l, b :: m, h => by simp only [sameT]; rw [sameT_len (l := l) (m := m) (by simpa using h)]; simp
theorem sameT_all : ∀ {l m : List Tok}, l.length = m.length → (∀ (i : Nat) (t u : Tok), l[i]? = some t → m[i]? = some u → Tok.eqb t u = true) → sameT l m = true
  | [], [], _, _ => rfl
  | [], _ :: _, h, _ => by simp at h
  | _ :: _, [], h, _ => by simp at h
  | a :: l, b :: m, h, hk => by
    simp only [sameT]
    rw [hk 0 a b rfl rfl, sameT_all (by simpa using h) (fun i t u h1 h2 => hk (i + 1) t u (by simpa using h1) (by simpa using h2))]
    rfl
theorem sameT_not : ∀ {l m : List Tok} {i : Nat} {t u : Tok}, l[i]? = some t → m[i]? = some u → t.eqb u = false → sameT l m = false
  | [], _, _, _, _, h, _, _ => by simp at h
  | _ :: _, [], _, _, _, _, h, _ => by simp at h
  | a :: l, b :: m, 0, t, u, h1, h2, h3 => by
    simp at h1 h2
    subst h1; subst h2
    simp [sameT, h3]
  | a :: l, b :: m, i + 1, t, u, h1, h2, h3 => by
    simp only [sameT]
    rw [sameT_not (i := i) (l := l) (m := m) (by simpa using h1) (by simpa using h2) h3]
    simp
theorem Tok.eqb_iff {a b : Tok} : a.eqb b = true ↔ a = b := by
  obtain ⟨k, p, t, l⟩ := a
  obtain ⟨k', p', t', l'⟩ := b
  simp only [Tok.eqb, Bool.and_eq_true, beq_iff_eq, Tok.mk.injEq]
  have ht : t.toList = t'.toList ↔ t = t' := by
    constructor
    · intro h
      exact ByteArray.ext (by rw [ByteArray.toList_eq, ByteArray.toList_eq] at h; exact Array.toList_inj.1 h)
    · intro h; rw [h]
  rw [ht]
theorem sameT_iff : ∀ {l m : List Tok}, sameT l m = true ↔ l = m
  | [], [] => by simp [sameT]
  | [], _ :: _ => by simp [sameT]
  | _ :: _, [] => by simp [sameT]
  | a :: l, b :: m => by simp only [sameT, Bool.and_eq_true, Tok.eqb_iff, sameT_iff, List.cons.injEq]

set_option maxHeartbeats 400000 in
theorem same_any (A C : Option Addr) (n m c d B B2 : Nat) (l r : List Tok) (w : World) (hl : Reads w B 4 A n (toks l)) (hr : Reads w B2 4 C m (toks r)) (hn : n ≤ maxLen) (_hm : m ≤ maxLen) :
    Calls Try.prog 14 #[.slice A n c, .slice C m d] w fun e w' => e = .returned (.bool (sameT l r)) ∧ ∃ k, w' = w.drewN k := by
  unfold maxLen at hn
  have hln := hl.len_toks
  have hrm := hr.len_toks
  by_cases hne : n = m
  · have hb : ((n : Int) != (m : Int)) = false := by simp [hne]
    have HN := Lib.hid hne
    have HL := Lib.hid hln
    have HR := Lib.hid hrm
    have hneq := fun w => run_neq_tok w
    clear hne hln hrm
    go_enter Try.func14, Try.ntmps14
    go_wp2_with fail
    go_loopw [5] (fun i wr => ∃ k : Nat, k ≤ n ∧ i = .int .i64 k ∧ (∃ nd, wr = w.drewN nd) ∧ Hid (∀ i, i < k → ∀ t u, l[i]? = some t → r[i]? = some u → t.eqb u = true)) (fun i _ => n - (intOf i).toNat)
    case atStart => exact ⟨0, Nat.zero_le _, rfl, ⟨0, rfl⟩, fun i hi => absurd hi (by omega)⟩
    case round =>
      obtain ⟨k, hk, rfl, ⟨nd, rfl⟩, hall⟩ := hrel
      by_cases hlt : k < n
      · have hlt2 : k < m := by rw [← HN.out]; exact hlt
        obtain ⟨b, off, t, rfl, _, ht, h0, h1, h2, h3⟩ := hl.tok_at hlt
        obtain ⟨b2, off2, u, rfl, _, hu, k0, k1, k2, k3⟩ := hr.tok_at hlt2
        have HT := Lib.hid ht
        have HU := Lib.hid hu
        clear ht hu hl hr
        go_wp2_with fail
        obtain ⟨tk, tp, tt, tl⟩ := t
        obtain ⟨uk, up, ut, ul⟩ := u
        simp only at h0 h1 h2 h3 k0 k1 k2 k3
        cases he : Tok.eqb ⟨tk, tp, tt, tl⟩ ⟨uk, up, ut, ul⟩
        · go_wp2_with fail
          go_quiet (fail)
          go_wp2_with fail
          go_ret
          exact ⟨ret_bool (sameT_not HT.out HU.out he).symm, drew2 _ _ _⟩
        · go_wp2_with fail
          go_quiet (fail)
          go_wp2_with fail
          go_roundw
          case rel =>
            refine ⟨k + 1, by omega, by go_num, ⟨_, rfl⟩, fun i hi t' u' g1 g2 => ?_⟩
            rcases Nat.lt_or_ge i k with h | h
            · exact hall.out i h t' u' g1 g2
            · obtain rfl : i = k := by omega
              have e1 := HT.out.symm.trans g1
              have e2 := HU.out.symm.trans g2
              injection e1 with e1
              injection e2 with e2
              subst e1; subst e2
              exact he
          case measure => simp [intOf]; omega
      · go_wp2_with fail
        go_ret
        refine ⟨ret_bool (sameT_all (by rw [HL.out, HR.out, HN.out]) fun i t u h1 h2 => ?_).symm, _, rfl⟩
        obtain ⟨hi, _⟩ := List.getElem?_eq_some_iff.1 h1
        have := HL.out
        exact hall.out i (by omega) t u h1 h2
  · have hb : ((n : Int) != (m : Int)) = true := by simp; omega
    have HN := Lib.hid hne
    clear hne
    go_enter Try.func14, Try.ntmps14
    go_wp2_with fail
    go_ret
    exact ⟨ret_bool (sameT_len (by rw [hln, hrm]; exact HN.out)).symm, 0, rfl⟩
end Go.Proofs.Ythpdfgfefmoaaaa
