/- The concatenation of the texts of tokens. -/
import Derived.Test.YthpdfgfefmoaaaaRLex
import Derived.StillTailTactics
namespace Go.Proofs.Ythpdfgfefmoaaaa
open Go.RowKit


def textFrom (s : ByteArray) (l : List Tok) : ByteArray := l.foldl (fun s t => s ++ t.text) s
def textL (l : List Tok) : ByteArray := textFrom ByteArray.empty l
theorem textFrom_size (l : List Tok) : ∀ s : ByteArray, s.size ≤ (textFrom s l).size := by
  induction l with
  | nil => intro s; exact Nat.le_refl _
  | cons t l ih =>
    intro s
    have := ih (s ++ t.text)
    simp only [textFrom, List.foldl_cons, ByteArray.size_append] at *
    omega
theorem textFrom_snoc (s : ByteArray) (l : List Tok) (t : Tok) : textFrom s (l ++ [t]) = textFrom s l ++ t.text := by simp [textFrom]
theorem textL_take (l : List Tok) (k : Nat) : (textL (l.take k)).size ≤ (textL l).size := by
  have h : textFrom ByteArray.empty (l.take k ++ l.drop k) = textFrom (textFrom ByteArray.empty (l.take k)) (l.drop k) := List.foldl_append
  rw [List.take_append_drop] at h
  simp only [textL]
  rw [h]
  exact textFrom_size _ _
theorem take_snoc_tok (l : List Tok) (k : Nat) (t : Tok) (h : l[k]? = some t) : l.take (k + 1) = l.take k ++ [t] := by
  rw [List.take_add_one, h]; rfl

set_option maxHeartbeats 1000000 in
theorem text_any (A : Option Addr) (n c B : Nat) (l : List Tok) (w : World) (hl : Reads w B 4 A n (toks l)) (hB : B ≤ w.heap.size) (hn : n ≤ maxLen) (hsz : (textL l).size ≤ 9223372036854775807) :
    Calls Try.prog 22 #[.slice A n c] w fun e w' => e = .returned (.string (textL l)) ∧ Below w.heap.size w w' := by
  unfold maxLen at hn
  have HSZ := Lib.hid hsz
  have HL := Lib.hid hl
  clear hsz hl
  go_enter Try.func22, Try.ntmps22
  go_wp2_with fail
  go_loopw [3, 8] (fun a b wr => ∃ (k : Nat) (T : ByteArray), k ≤ n ∧ b = .int .i64 k ∧ a = .string T ∧ Hid (T = textL (l.take k)) ∧ Below w.heap.size w wr) (fun _ b _ => n - (intOf b).toNat)
  case atStart => exact ⟨0, _, Nat.zero_le _, rfl, rfl, rfl, Below.refl _ _⟩
  case round =>
    obtain ⟨k, T, hk, rfl, rfl, HTe, hb⟩ := hrel
    by_cases hlt : k < n
    · have hr := HL.out.below (hb.mono hB)
      obtain ⟨b, off, t, rfl, hbB, ht, h0, h1, h2, h3⟩ := hr.tok_at hlt
      have HT := Lib.hid ht
      have e1 := textL_take l (k + 1)
      have e3 : textL (l.take (k + 1)) = T ++ t.text := by rw [take_snoc_tok l k t ht, textL, textFrom_snoc, HTe.out, textL]
      rw [e3, ByteArray.size_append] at e1
      have e2 : T.size + t.text.size ≤ 9223372036854775807 := Nat.le_trans e1 HSZ.out
      have H3 := Lib.hid e3
      clear ht e1 e3 hr
      go_wp2_with fail
      go_roundw
      case rel => exact ⟨k + 1, _, by omega, by go_num, rfl, H3.out.symm, (hb.alloc hb.size _)⟩
      case measure => simp [intOf]; omega
    · have e1 : T = textL l := by rw [HTe.out, List.take_of_length_le (by have := HL.out.len_toks; omega)]
      subst e1
      go_wp2_with fail
      go_ret
      exact ⟨rfl, hb⟩

set_option maxHeartbeats 1000000 in
theorem refText_any (A : Option Addr) (n c B : Nat) (l : List Tok) (w : World) (hl : Reads w B 4 A n (toks l)) (hn : n ≤ maxLen) (hsz : (textL l).size ≤ 9223372036854775807) :
    Calls Try.prog 18 #[.slice A n c] w fun e w' => e = .returned (.string (textL l)) ∧ w = w' := by
  unfold maxLen at hn
  have HSZ := Lib.hid hsz
  have HL := Lib.hid hl
  clear hsz hl
  go_enter Try.func18, Try.ntmps18
  go_wp2_with fail
  go_loop [3, 4] (fun a b => ∃ (k : Nat) (T : ByteArray), k ≤ n ∧ b = .int .i64 k ∧ a = .string T ∧ Hid (T = textL (l.take k))) (fun _ b => n - (intOf b).toNat)
  case atStart => exact ⟨0, _, Nat.zero_le _, rfl, rfl, rfl⟩
  case round =>
    obtain ⟨k, T, hk, rfl, rfl, HTe⟩ := hrel
    by_cases hlt : k < n
    · obtain ⟨b, off, t, rfl, hbB, ht, h0, h1, h2, h3⟩ := HL.out.tok_at hlt
      have HT := Lib.hid ht
      have e1 := textL_take l (k + 1)
      have e3 : textL (l.take (k + 1)) = T ++ t.text := by rw [take_snoc_tok l k t ht, textL, textFrom_snoc, HTe.out, textL]
      rw [e3, ByteArray.size_append] at e1
      have e2 : T.size + t.text.size ≤ 9223372036854775807 := Nat.le_trans e1 HSZ.out
      have H3 := Lib.hid e3
      clear ht e1 e3
      go_wp2_with fail
      go_round
      case rel => exact ⟨k + 1, _, by omega, by go_num, rfl, H3.out.symm⟩
      case measure => simp [intOf]; omega
    · have e1 : T = textL l := by rw [HTe.out, List.take_of_length_le (by have := HL.out.len_toks; omega)]
      subst e1
      go_wp2_with fail
      go_ret
      exact ⟨rfl, rfl⟩
end Go.Proofs.Ythpdfgfefmoaaaa
