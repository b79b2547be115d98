/- Incremental lexing: where the tokens of an edited text are those of the old one. Plain facts. -/
import Derived.Test.YthpdfgfefmoaaaaRChain
import Derived.Test.YthpdfgfefmoaaaaRInv
namespace Go.Proofs.Ythpdfgfefmoaaaa
open Go.RowKit

theorem byteAt_bl (s : ByteArray) (j : Nat) : byteAt s j = (bl s)[j]?.getD 0 := by simp [byteAt, bl]
theorem bl_take_eq {s : ByteArray} {i j n : Nat} (h1 : i + n ≤ s.size) (hj : j < n) : (bl (s.extract i (i + n)))[j]? = some (byteAt s (i + j)) := by
  have hl := bl_length s
  rw [bl_extract, List.getElem?_drop, List.getElem?_take, if_pos (by omega), byteAt_bl, List.getElem?_eq_getElem (by omega)]
  rfl
/-- Pieces with the same bytes are the same. -/
theorem extract_eq {a b : ByteArray} {i i' n : Nat} (h1 : i + n ≤ a.size) (h2 : i' + n ≤ b.size) (hb : ∀ j, j < n → byteAt b (i' + j) = byteAt a (i + j)) : b.extract i' (i' + n) = a.extract i (i + n) := by
  apply bl_inj
  apply List.ext_getElem?
  intro j
  rcases Nat.lt_or_ge j n with h | h
  · rw [bl_take_eq h2 h, bl_take_eq h1 h, hb j h]
  · rw [List.getElem?_eq_none, List.getElem?_eq_none]
    · rw [bl_length, ByteArray.size_extract]; omega
    · rw [bl_length, ByteArray.size_extract]; omega

/-- The edited text ahead of the edit and behind it. -/
theorem byteAt_front {s : ByteArray} {e : Ed} (h : e.ok s.size = true) (j : Nat) (hj : j < e.pos.toNat) : byteAt (apT s e) j = byteAt s j := by
  have hl := bl_length s
  obtain ⟨h1, h2, h3, h4⟩ := Ed.ok_iff.1 h
  rw [byteAt_bl, byteAt_bl, bl_apT h, List.append_assoc, List.getElem?_append_left (by rw [List.length_take]; omega), List.getElem?_take, if_pos hj]
theorem byteAt_back {s : ByteArray} {e : Ed} (h : e.ok s.size = true) (j : Nat) : byteAt (apT s e) (e.pos.toNat + e.ins.size + j) = byteAt s (e.pos.toNat + e.del.toNat + j) := by
  have hl := bl_length s
  have hi := bl_length e.ins
  obtain ⟨h1, h2, h3, h4⟩ := Ed.ok_iff.1 h
  have hz : ((bl s).take e.pos.toNat ++ bl e.ins).length = e.pos.toNat + e.ins.size := by rw [List.length_append, List.length_take]; omega
  rw [byteAt_bl, byteAt_bl, bl_apT h, List.getElem?_append_right (by omega), hz, List.getElem?_drop]
  congr 2
  omega

theorem scan0_look (d : Dfa) (s : ByteArray) (i : Nat) (hi : i < s.size) : (scan0 d s i).2.1 ≤ (scan0 d s i).2.2 :=
  (scan_look d s i (s.size - i) 0 0 (-1) 1 (by omega) (by omega) (by omega)).1
theorem tokAt_front (d : Dfa) (s t : ByteArray) (i P : Nat) (hi : i < s.size) (hs : P ≤ s.size) (ht : P ≤ t.size) (h : i + (scan0 d s i).2.2 ≤ P) (hb : ∀ j, j < P → byteAt t j = byteAt s j) : tokAt d t i = tokAt d s i := by
  have e : scan0 d t i = scan0 d s i := by
    refine scan_agree d s t i i _ _ 0 0 (-1) 1 (by omega) (by omega) (by omega) (Nat.le_trans h hs) (Nat.le_trans h ht) ?_
    intro j hj
    have hj' : j < (scan0 d s i).2.2 := hj
    exact hb _ (by omega)
  have hl := scan0_look d s i hi
  simp only [tokAt, e]
  rw [extract_eq (a := s) (b := t) (i := i) (i' := i) (by omega) (by omega) (fun j hj => hb _ (by omega))]

/-- A token at another place. -/
def Tok.mv (a : Int) (t : Tok) : Tok := ⟨t.kind, t.pos + a, t.text, t.look⟩
theorem tokAt_back (d : Dfa) (s t : ByteArray) (a a' x : Nat) (hz : t.size + a = s.size + a') (hx : a + x < s.size) (hb : ∀ j, a + j < s.size → byteAt t (a' + j) = byteAt s (a + j)) :
    tokAt d t (a' + x) = (tokAt d s (a + x)).mv ((a' : Int) - a) := by
  have e : scan0 d t (a' + x) = scan0 d s (a + x) := by
    unfold scan0
    rw [show t.size - (a' + x) = s.size - (a + x) by omega]
    refine scan_shift d s t (a + x) (a' + x) _ 0 0 (-1) 1 (fun j _ h => ?_)
    rw [Nat.add_assoc, Nat.add_assoc, hb _ (by omega)]
  have hbd := scan0_bd d s (a + x) hx
  simp only [tokAt, Tok.mv, e]
  rw [extract_eq (a := s) (b := t) (i := a + x) (i' := a' + x) (by omega) (by omega) (fun j hj => by rw [Nat.add_assoc, Nat.add_assoc, hb _ (by omega)])]
  simp only [Tok.mk.injEq, true_and, and_true]
  omega
theorem lexFrom_back (d : Dfa) (s t : ByteArray) (a a' : Nat) (hz : t.size + a = s.size + a') (hb : ∀ j, a + j < s.size → byteAt t (a' + j) = byteAt s (a + j)) :
    ∀ (f x : Nat), lexFrom d t f (a' + x) = (lexFrom d s f (a + x)).map (Tok.mv ((a' : Int) - a))
  | 0, _ => rfl
  | f + 1, x => by
    simp only [lexFrom]
    by_cases h : a + x < s.size
    · rw [if_pos (by omega), if_pos h, List.map_cons, tokAt_back d s t a a' x hz h hb]
      have : ((tokAt d s (a + x)).mv ((a' : Int) - a)).text.size = (tokAt d s (a + x)).text.size := rfl
      rw [this, Nat.add_assoc, Nat.add_assoc, lexFrom_back d s t a a' hz hb f _]
    · rw [if_neg (by omega), if_neg h]; rfl

theorem lexL_drop (d : Dfa) (s : ByteArray) (k : Nat) (hk : k ≤ (lexL d s).length) : (lexL d s).drop k = lexFrom d s (s.size - offs (lexL d s) k) (offs (lexL d s) k) := by
  have h1 := lexFrom_drop d s k 0 (by simpa [lexL] using hk)
  simpa [lexL] using h1
theorem lexL_at (d : Dfa) (s : ByteArray) {k : Nat} {t : Tok} (h : (lexL d s)[k]? = some t) : offs (lexL d s) k < s.size ∧ t = tokAt d s (offs (lexL d s) k) := by
  have := chain_at d s _ 0 k t (chain_lexL d s) h
  rwa [Nat.zero_add] at this
theorem lexL_pos (d : Dfa) (s : ByteArray) {k : Nat} {t : Tok} (h : (lexL d s)[k]? = some t) : t.pos = (offs (lexL d s) k : Nat) := by
  rw [(lexL_at d s h).2]; rfl
theorem lexL_end (d : Dfa) (s : ByteArray) : offs (lexL d s) (lexL d s).length = s.size := by
  have := chain_end d s _ 0 (chain_lexL d s)
  rwa [Nat.zero_add] at this
theorem lexL_size (d : Dfa) (s : ByteArray) {k : Nat} {t : Tok} (h : (lexL d s)[k]? = some t) : 1 ≤ t.text.size ∧ offs (lexL d s) k + t.text.size = offs (lexL d s) (k + 1) ∧ offs (lexL d s) (k + 1) ≤ s.size := by
  obtain ⟨h1, h2⟩ := lexL_at d s h
  have := tokAt_bd d s _ h1
  rw [← h2] at this
  rw [offs_succ _ _ _ h]
  omega
theorem lexL_look (d : Dfa) (s : ByteArray) {k : Nat} {t : Tok} (h : (lexL d s)[k]? = some t) : 1 ≤ t.look ∧ t.look ≤ (s.size : Int) - offs (lexL d s) k + 1 ∧ t.look = (scan0 d s (offs (lexL d s) k)).2.2 := by
  obtain ⟨h1, h2⟩ := lexL_at d s h
  have h3 := tokAt_look d s _ h1
  have h4 := tokAt_bd d s _ h1
  rw [← h2] at h3 h4
  refine ⟨by omega, h3.2, ?_⟩
  rw [h2]; rfl
theorem offs_mono (d : Dfa) (s : ByteArray) {i j : Nat} (hj : j ≤ (lexL d s).length) (hij : i < j) : offs (lexL d s) i < offs (lexL d s) j := by
  induction j with
  | zero => omega
  | succ j ih =>
    have := lexL_size d s (List.getElem?_eq_getElem (show j < (lexL d s).length by omega))
    rcases Nat.lt_or_ge i j with h | h
    · have := ih (by omega) h; omega
    · obtain rfl : i = j := by omega
      omega
theorem offs_le (d : Dfa) (s : ByteArray) {k : Nat} (hk : k ≤ (lexL d s).length) : offs (lexL d s) k ≤ s.size := by
  rcases Nat.lt_or_ge k (lexL d s).length with h | h
  · have := offs_mono d s (Nat.le_refl _) h; rw [lexL_end] at this; omega
  · obtain rfl : k = (lexL d s).length := by omega
    rw [lexL_end]; exact Nat.le_refl _
theorem offs_inj (d : Dfa) (s : ByteArray) {i j : Nat} (hi : i ≤ (lexL d s).length) (hj : j ≤ (lexL d s).length) (h : offs (lexL d s) i = offs (lexL d s) j) : i = j := by
  rcases Nat.lt_trichotomy i j with hl | hl | hl
  · have := offs_mono d s hj hl; omega
  · exact hl
  · have := offs_mono d s hi hl; omega
theorem offs_ge (d : Dfa) (s : ByteArray) : ∀ {k : Nat}, k ≤ (lexL d s).length → k ≤ offs (lexL d s) k
  | 0, _ => Nat.zero_le _
  | k + 1, hk => by
    have h1 := offs_ge d s (k := k) (by omega)
    have h2 := offs_mono d s hk (Nat.lt_succ_self k)
    omega
theorem lexL_len (d : Dfa) (s : ByteArray) : (lexL d s).length ≤ s.size := by
  have := offs_ge d s (Nat.le_refl _)
  rwa [lexL_end] at this

/-- The retained tokens at the beginning. -/
def preL (a : Int) : List Tok → Nat
  | [] => 0
  | t :: l => if t.pos + t.look ≤ a then preL a l + 1 else 0
theorem preL_le (a : Int) : ∀ l : List Tok, preL a l ≤ l.length
  | [] => Nat.le_refl _
  | t :: l => by simp only [preL]; have := preL_le a l; split <;> simp <;> omega
theorem preL_in {a : Int} : ∀ {l : List Tok} {i : Nat} {t : Tok}, i < preL a l → l[i]? = some t → t.pos + t.look ≤ a
  | [], i, t, h, _ => by simp [preL] at h
  | x :: l, i, t, h, ht => by
    simp only [preL] at h
    split at h
    · match i with
      | 0 => simp at ht; subst ht; assumption
      | i + 1 => exact preL_in (l := l) (i := i) (by omega) (by simpa using ht)
    · omega
theorem preL_out {a : Int} : ∀ {l : List Tok} {t : Tok}, l[preL a l]? = some t → a < t.pos + t.look
  | [], t, ht => by simp at ht
  | x :: l, t, ht => by
    simp only [preL] at ht
    split at ht
    · exact preL_out (l := l) (by simpa using ht)
    · simp at ht; subst ht; omega
theorem preL_eq {a : Int} {l : List Tok} {n : Nat} (hn : n ≤ l.length) (hi : ∀ (i : Nat) (t : Tok), i < n → l[i]? = some t → t.pos + t.look ≤ a) (ho : ∀ t : Tok, l[n]? = some t → a < t.pos + t.look) : n = preL a l := by
  have hp := preL_le a l
  rcases Nat.lt_trichotomy n (preL a l) with h | h | h
  · have ht := List.getElem?_eq_getElem (show n < l.length by omega)
    have h1 := preL_in h ht
    have h2 := ho _ ht
    omega
  · exact h
  · have ht := List.getElem?_eq_getElem (show preL a l < l.length by omega)
    have h1 := hi _ _ h ht
    have h2 := preL_out ht
    omega

section
variable (d : Dfa) (s : ByteArray) (e : Ed)
/-- The tokens of the prefix are the edited text's too. -/
theorem pre_take (h : e.ok s.size = true) : ∀ i, i ≤ preL e.pos (lexL d s) → i ≤ (lexL d (apT s e)).length ∧ (lexL d (apT s e)).take i = (lexL d s).take i
  | 0, _ => ⟨Nat.zero_le _, rfl⟩
  | i + 1, hi => by
    obtain ⟨hl, he⟩ := pre_take h i (by omega)
    obtain ⟨h1, h2, h3, h4⟩ := Ed.ok_iff.1 h
    have hsz := apT_size_ok h
    have hp := preL_le e.pos (lexL d s)
    have ht := List.getElem?_eq_getElem (show i < (lexL d s).length by omega)
    have hin := preL_in (show i < preL e.pos (lexL d s) by omega) ht
    have hpos := lexL_pos d s ht
    have hlk := lexL_look d s ht
    obtain ⟨hos, hte⟩ := lexL_at d s ht
    have ho : offs (lexL d (apT s e)) i = offs (lexL d s) i := by simp only [offs, he]
    have hil : i < (lexL d (apT s e)).length := by
      rcases Nat.lt_or_ge i (lexL d (apT s e)).length with hlt | hge
      · exact hlt
      · exfalso
        have hi2 : i = (lexL d (apT s e)).length := by omega
        have := lexL_end d (apT s e)
        rw [← hi2, ho] at this
        omega
    have hu := List.getElem?_eq_getElem hil
    obtain ⟨hot, hue⟩ := lexL_at d (apT s e) hu
    rw [ho] at hue
    have hfr := tokAt_front d s (apT s e) (offs (lexL d s) i) e.pos.toNat hos (by omega) (by omega) (by omega) (fun j hj => byteAt_front h j hj)
    refine ⟨hil, ?_⟩
    rw [take_snoc_tok _ _ _ hu, take_snoc_tok _ _ _ ht, he, hue, hfr, ← hte]
theorem pre_at (h : e.ok s.size = true) {i : Nat} (hi : i < preL e.pos (lexL d s)) : (lexL d (apT s e))[i]? = (lexL d s)[i]? := by
  have := congrArg (fun l => l[i]?) (pre_take d s e h (i + 1) (by omega)).2
  simpa using this
/-- Token m of the edited text and token k of the old one begin at the same place behind the edit. -/
structure Meet (m k : Nat) : Prop where
  fm : preL e.pos (lexL d s) ≤ m
  ml : m ≤ (lexL d (apT s e)).length
  kl : k ≤ (lexL d s).length
  q : e.pos.toNat + e.ins.size ≤ offs (lexL d (apT s e)) m
  eq : offs (lexL d s) k + e.ins.size = offs (lexL d (apT s e)) m + e.del.toNat
structure First (m k : Nat) : Prop where
  meet : Meet d s e m k
  least : ∀ m' k', Meet d s e m' k' → m ≤ m'
variable {d s e}
theorem Meet.inj {m k k' : Nat} (h : Meet d s e m k) (h' : Meet d s e m k') : k = k' := offs_inj d s h.kl h'.kl (by have := h.eq; have := h'.eq; omega)
theorem First.uniq {m k m' k' : Nat} (h : First d s e m k) (h' : First d s e m' k') : m = m' ∧ k = k' := by
  have h1 := h.least _ _ h'.meet
  have h2 := h'.least _ _ h.meet
  obtain rfl : m = m' := by omega
  exact ⟨rfl, h.meet.inj h'.meet⟩
theorem Meet.last (h : e.ok s.size = true) : Meet d s e (lexL d (apT s e)).length (lexL d s).length := by
  obtain ⟨h1, h2, h3, h4⟩ := Ed.ok_iff.1 h
  have hsz := apT_size_ok h
  refine ⟨(pre_take d s e h _ (Nat.le_refl _)).1, Nat.le_refl _, Nat.le_refl _, ?_, ?_⟩
  · rw [lexL_end]; omega
  · rw [lexL_end, lexL_end]; omega
theorem Meet.fk (h : e.ok s.size = true) {m k : Nat} (hm : Meet d s e m k) : preL e.pos (lexL d s) ≤ k := by
  obtain ⟨h1, h2, h3, h4⟩ := Ed.ok_iff.1 h
  rcases Nat.lt_or_ge k (preL e.pos (lexL d s)) with hk | hk
  · exfalso
    have ht := List.getElem?_eq_getElem (show k < (lexL d s).length by have := preL_le e.pos (lexL d s); omega)
    have a1 := preL_in hk ht
    have a2 := lexL_pos d s ht
    have a3 := lexL_look d s ht
    have := hm.q
    have := hm.eq
    omega
  · exact hk
/-- Behind such a place the tokens are the old ones, shifted. -/
theorem Meet.rest (h : e.ok s.size = true) {m k : Nat} (hm : Meet d s e m k) : (lexL d (apT s e)).drop m = ((lexL d s).drop k).map (Tok.mv ((e.ins.size : Int) - e.del)) := by
  obtain ⟨h1, h2, h3, h4⟩ := Ed.ok_iff.1 h
  have hsz := apT_size_ok h
  have hq := hm.q
  have he := hm.eq
  have ho := offs_le d s hm.kl
  obtain ⟨x, hx⟩ : ∃ x, offs (lexL d (apT s e)) m = e.pos.toNat + e.ins.size + x := ⟨_, (Nat.add_sub_cancel' hq).symm⟩
  have hy : offs (lexL d s) k = e.pos.toNat + e.del.toNat + x := by omega
  rw [lexL_drop d _ m hm.ml, lexL_drop d s k hm.kl, hx, hy]
  rw [lexFrom_back d s (apT s e) (e.pos.toNat + e.del.toNat) (e.pos.toNat + e.ins.size) (by omega) (fun j _ => byteAt_back h j)]
  rw [show (((e.pos.toNat + e.ins.size : Nat) : Int) - ((e.pos.toNat + e.del.toNat : Nat) : Int)) = (e.ins.size : Int) - e.del by omega]
  congr 1
  exact lexFrom_fuel d s _ _ _ (by omega) (Nat.le_refl _)
theorem Meet.len (h : e.ok s.size = true) {m k : Nat} (hm : Meet d s e m k) : (lexL d (apT s e)).length + k = (lexL d s).length + m := by
  have := congrArg List.length (hm.rest h)
  simp only [List.length_drop, List.length_map] at this
  have := hm.ml
  have := hm.kl
  omega
theorem Meet.tok (h : e.ok s.size = true) {m k : Nat} (hm : Meet d s e m k) {j : Nat} {t : Tok} (ht : (lexL d s)[k + j]? = some t) : (lexL d (apT s e))[m + j]? = some (t.mv ((e.ins.size : Int) - e.del)) := by
  have := congrArg (fun l => l[j]?) (hm.rest h)
  simp only [List.getElem?_drop, List.getElem?_map, ht, Option.map_some] at this
  exact this

/-- What the program's search for the suffix has passed. -/
def Passed (d : Dfa) (s : ByteArray) (e : Ed) (m k : Nat) : Prop := offs (lexL d s) k < e.pos.toNat + e.del.toNat ∨ offs (lexL d s) k + e.ins.size < offs (lexL d (apT s e)) m + e.del.toNat
theorem passed_pre (h : e.ok s.size = true) {m k : Nat} (hk : k < preL e.pos (lexL d s)) : Passed d s e m k := by
  obtain ⟨h1, h2, h3, h4⟩ := Ed.ok_iff.1 h
  have ht := List.getElem?_eq_getElem (show k < (lexL d s).length by have := preL_le e.pos (lexL d s); omega)
  have a1 := preL_in hk ht
  have a2 := lexL_pos d s ht
  have a3 := lexL_look d s ht
  left
  omega
theorem Passed.next {m m' k : Nat} (hm : m ≤ m') (hl : m' ≤ (lexL d (apT s e)).length) (h : Passed d s e m k) : Passed d s e m' k := by
  rcases h with h | h
  · exact Or.inl h
  · right
    rcases Nat.lt_or_ge m m' with hlt | hge
    · have := offs_mono d (apT s e) hl hlt; omega
    · obtain rfl : m = m' := by omega
      exact h
/-- If the first token that is not passed does not begin at the place, no token does. -/
theorem no_meet (h : e.ok s.size = true) {m k : Nat} (hk : k ≤ (lexL d s).length) (hp : ∀ j, j < k → Passed d s e m j) (hn : k < (lexL d s).length → ¬ Passed d s e m k)
    (hno : ¬ (e.pos.toNat + e.ins.size ≤ offs (lexL d (apT s e)) m ∧ offs (lexL d s) k + e.ins.size = offs (lexL d (apT s e)) m + e.del.toNat)) : ∀ k', ¬ Meet d s e m k' := by
  intro k' hm
  have hq := hm.q
  have he := hm.eq
  have hkl := hm.kl
  rcases Nat.lt_trichotomy k k' with hlt | heq | hgt
  · have h1 := hn (by omega)
    have h2 := offs_mono d s hm.kl hlt
    exact h1 (Or.inr (by omega))
  · subst heq
    exact hno ⟨hq, he⟩
  · rcases hp k' hgt with h1 | h1 <;> omega
theorem no_meet_lt (h : e.ok s.size = true) {m : Nat} (hm : m ≤ (lexL d (apT s e)).length) (hno : ∀ k', ¬ Meet d s e m k') : m < (lexL d (apT s e)).length := by
  rcases Nat.lt_or_ge m (lexL d (apT s e)).length with hlt | hge
  · exact hlt
  · obtain rfl : m = (lexL d (apT s e)).length := by omega
    exact absurd (Meet.last h) (hno _)

theorem passed_iff {P D m k : Nat} {t : ByteArray} : Passed d s ⟨P, D, t⟩ m k ↔ offs (lexL d s) k < P + D ∨ offs (lexL d s) k + t.size < offs (lexL d (apT s ⟨P, D, t⟩)) m + D := by simp [Passed]

/-- Where the program's search stands: m tokens of the edited text, which end at om; k old ones passed. -/
structure Stand (d : Dfa) (s : ByteArray) (e : Ed) (om m k : Nat) : Prop where
  ok : e.ok s.size = true
  om : om = offs (lexL d (apT s e)) m
  fm : preL e.pos (lexL d s) ≤ m
  ml : m ≤ (lexL d (apT s e)).length
  kl : k ≤ (lexL d s).length
  pass : ∀ j, j < k → Passed d s e m j
  none : ∀ m' k', m' < m → ¬ Meet d s e m' k'
theorem Stand.start (h : e.ok s.size = true) : Stand d s e (offs (lexL d s) (preL e.pos (lexL d s))) (preL e.pos (lexL d s)) (preL e.pos (lexL d s)) := by
  obtain ⟨h1, h2⟩ := pre_take d s e h _ (Nat.le_refl _)
  refine ⟨h, ?_, Nat.le_refl _, h1, preL_le _ _, fun j hj => passed_pre h hj, fun m' k' hm hmeet => ?_⟩
  · simp only [offs, h2]
  · have := hmeet.fm; omega
theorem Stand.skip {om m k : Nat} (h : Stand d s e om m k) (hk : k < (lexL d s).length) (hp : Passed d s e m k) : Stand d s e om m (k + 1) := by
  refine ⟨h.ok, h.om, h.fm, h.ml, hk, fun j hj => ?_, h.none⟩
  rcases Nat.lt_or_ge j k with h1 | h1
  · exact h.pass j h1
  · obtain rfl : j = k := by omega
    exact hp
theorem Stand.first {om m k : Nat} (h : Stand d s e om m k) (hq : e.pos.toNat + e.ins.size ≤ om) (he : offs (lexL d s) k + e.ins.size = om + e.del.toNat) : First d s e m k := by
  have hom := h.om
  refine ⟨⟨h.fm, h.ml, h.kl, by omega, by omega⟩, fun m' k' hm => ?_⟩
  rcases Nat.lt_or_ge m' m with h1 | h1
  · exact absurd hm (h.none m' k' h1)
  · exact h1
theorem Stand.next {om m k : Nat} (h : Stand d s e om m k) (hn : k < (lexL d s).length → ¬ Passed d s e m k) (hno : ¬ (e.pos.toNat + e.ins.size ≤ om ∧ offs (lexL d s) k + e.ins.size = om + e.del.toNat)) :
    om < (apT s e).size ∧ (lexL d (apT s e))[m]? = some (tokAt d (apT s e) om) ∧ Stand d s e (om + (tokAt d (apT s e) om).text.size) (m + 1) k := by
  have hom := h.om
  rw [hom] at hno
  have h1 := no_meet h.ok h.kl h.pass hn hno
  have h2 := no_meet_lt h.ok h.ml h1
  have ht := List.getElem?_eq_getElem h2
  obtain ⟨h3, h4⟩ := lexL_at d (apT s e) ht
  have h5 := lexL_size d (apT s e) ht
  rw [← hom] at h3 h4 h5
  rw [h4] at ht h5
  refine ⟨h3, ht, h.ok, by omega, by have := h.fm; omega, h2, h.kl, fun j hj => (h.pass j hj).next (Nat.le_succ m) h2, fun m' k' hm => ?_⟩
  rcases Nat.lt_or_ge m' m with h6 | h6
  · exact h.none m' k' h6
  · obtain rfl : m' = m := by omega
    exact h1 k'
end
end Go.Proofs.Ythpdfgfefmoaaaa
