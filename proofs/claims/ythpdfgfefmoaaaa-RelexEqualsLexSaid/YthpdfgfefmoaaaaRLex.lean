/- The reference's Lex returns the tokens of maximal munch ('lexL'). -/
import Derived.Test.YthpdfgfefmoaaaaRScan
namespace Go.Proofs.Ythpdfgfefmoaaaa
open Go.RowKit


theorem scan_bd (d : Dfa) (s : ByteArray) (i : Nat) : ∀ (m st look : Nat) (kind : Int) (size : Nat), m = s.size - i - look → i + look ≤ s.size → 1 ≤ size → i + size ≤ s.size →
    1 ≤ (scan d s i m st look kind size).2.1 ∧ i + (scan d s i m st look kind size).2.1 ≤ s.size
  | 0, st, look, kind, size, _, _, h1, h2 => ⟨h1, h2⟩
  | m + 1, st, look, kind, size, hm, hl, h1, h2 => by
    simp only [scan]
    split
    · exact ⟨h1, h2⟩
    · split
      · exact scan_bd d s i m _ _ _ _ (by omega) (by omega) (by omega) (by omega)
      · exact scan_bd d s i m _ _ _ _ (by omega) (by omega) (by omega) (by omega)
theorem scan0_bd (d : Dfa) (s : ByteArray) (i : Nat) (hi : i < s.size) : 1 ≤ (scan0 d s i).2.1 ∧ i + (scan0 d s i).2.1 ≤ s.size :=
  scan_bd d s i _ 0 0 (-1) 1 (by omega) (by omega) (by omega) (by omega)
theorem tokAt_size (d : Dfa) (s : ByteArray) (i : Nat) (hi : i < s.size) : (tokAt d s i).text.size = (scan0 d s i).2.1 := by
  have := scan0_bd d s i hi
  simp only [tokAt, ByteArray.size_extract]
  omega
theorem tokAt_bd (d : Dfa) (s : ByteArray) (i : Nat) (hi : i < s.size) : 1 ≤ (tokAt d s i).text.size ∧ i + (tokAt d s i).text.size ≤ s.size := by
  rw [tokAt_size d s i hi]; exact scan0_bd d s i hi

def lexFrom (d : Dfa) (s : ByteArray) : Nat → Nat → List Tok
  | 0, _ => []
  | f + 1, i => if i < s.size then tokAt d s i :: lexFrom d s f (i + (tokAt d s i).text.size) else []
def lexL (d : Dfa) (s : ByteArray) : List Tok := lexFrom d s s.size 0
theorem lexFrom_fuel (d : Dfa) (s : ByteArray) : ∀ (f g i : Nat), s.size - i ≤ f → s.size - i ≤ g → lexFrom d s f i = lexFrom d s g i
  | 0, 0, _, _, _ => rfl
  | 0, g + 1, i, h, _ => by simp only [lexFrom]; rw [if_neg (by omega)]
  | f + 1, 0, i, _, h => by simp only [lexFrom]; rw [if_neg (by omega)]
  | f + 1, g + 1, i, h, h' => by
    simp only [lexFrom]
    split
    · rename_i hi
      have := tokAt_bd d s i hi
      rw [lexFrom_fuel d s f g _ (by omega) (by omega)]
    · rfl
theorem lexFrom_end (d : Dfa) (s : ByteArray) (f i : Nat) (h : s.size ≤ i) : lexFrom d s f i = [] := by
  cases f with
  | zero => rfl
  | succ f => simp only [lexFrom]; rw [if_neg (by omega)]
theorem lexFrom_step (d : Dfa) (s : ByteArray) (i : Nat) (h : i < s.size) : lexFrom d s (s.size - i) i = tokAt d s i :: lexFrom d s (s.size - (i + (tokAt d s i).text.size)) (i + (tokAt d s i).text.size) := by
  obtain ⟨f, hf⟩ : ∃ f, s.size - i = f + 1 := ⟨s.size - i - 1, by omega⟩
  rw [hf]
  simp only [lexFrom]
  rw [if_pos h]
  have := tokAt_bd d s i h
  rw [lexFrom_fuel d s f _ _ (by omega) (Nat.le_refl _)]

/-- What a function that returns a list of tokens in new memory leaves. -/
def RetToks (l : List Tok) (w : World) (e : Ending) (w' : World) : Prop :=
  ∃ A c, e = .returned (.slice A l.length c) ∧ l.length ≤ c ∧ c ≤ maxLen ∧ Reads w' w'.heap.size 4 A l.length (toks l) ∧ Below w.heap.size w w'

theorem Try.infoTok : (Try.prog.info? 47).map (fun i => (i.zero, i.size, i.bytes)) = some (some (.agg #[.int .i64 0, .int .i64 0, .string ⟨#[]⟩, .int .i64 0]), 4, 40) := by kernel_rfl

/-- A token appended: what becomes of what the loop holds. -/
theorem lex_push {w wr w1 : World} {base : Nat} {v : Value} {acc : List Tok} {t : Tok} {v' : Value} (hb : Below base w wr) (hbase : base ≤ w.heap.size)
    (h : w1.ownsRow base 47 4 v' (acc.length + 1) (toks acc ++ t.cells)) (hg : wr.grownBy w1 v.ownBlock) (hown : wr.ownsRow base 47 4 v acc.length (toks acc)) :
    w1.ownsRow base 47 4 v' (acc ++ [t]).length (toks (acc ++ [t])) ∧ Below base w w1 := by
  refine ⟨?_, hb.grown hg (by have := hb.size; omega) (fun k hk => (hown.lt k hk).1)⟩
  rw [toks_append, List.length_append]
  simpa [toks] using h

set_option maxHeartbeats 1000000 in
theorem refLex_any (v : DfaV) (d : Dfa) (k B : Nat) (s : ByteArray) (w : World) (hd : DfaAt w B v d) (hB : B ≤ w.heap.size) (ho : d.Ok k) (hs : s.size ≤ 1048576) :
    Calls Try.prog 11 #[.agg #[.slice v.Ac v.nc v.cc, .slice v.An v.nn v.cn, .slice v.Aa v.na v.ca], .string s] w (RetToks (lexL d s) w) := by
  obtain ⟨i0, hi0, hz0, hz1, hz2⟩ := info_parts Try.infoTok
  have HD := Lib.hid (hd.more hB)
  have HP : Hid ([] ++ lexFrom d s (s.size - 0) 0 = lexL d s) := rfl
  clear hd
  obtain ⟨Ac, nc, cc, An, nn, cn, Aa, na, ca⟩ := v
  simp only at *
  go_enter Try.func11, Try.ntmps11
  go_wp2_with fail
  go_loopw [5, 6] (fun v a wr => ∃ (i : Nat) (acc : List Tok), i ≤ s.size ∧ acc.length ≤ i ∧ a = .int .i64 i ∧ wr.ownsRow (w.heap.size + 1) 47 4 v acc.length (toks acc) ∧
      Blk wr w.heap.size 25 #[.slice Ac nc cc, .slice An nn cn, .slice Aa na ca] ∧ Below (w.heap.size + 1) (w.alloc (.cells #[.slice Ac nc cc, .slice An nn cn, .slice Aa na ca] 25)) wr ∧
      Hid (acc ++ lexFrom d s (s.size - i) i = lexL d s)) (fun _ a _ => s.size - (intOf a).toNat)
  case atStart => exact ⟨0, [], by omega, by simp, rfl, World.ownsRow_nil _ _ _ _, Blk.new' _ _ _ rfl, Below.refl _ _, HP⟩
  case round =>
    obtain ⟨i, acc, hi, hacc, rfl, hown, B0, hb, HL⟩ := hrel
    have b0 := B0.cell 0
    have b1 := B0.cell 1
    have b2 := B0.cell 2
    simp at b0 b1 b2
    clear HP
    have hsz := hb.size
    simp only [World.size_alloc] at hsz
    by_cases hlt : i < s.size
    · have hD : DfaAt wr w.heap.size ⟨Ac, nc, cc, An, nn, cn, Aa, na, ca⟩ d := (HD.out.alloc (Nat.le_refl _) _).below (hb.mono (by omega))
      have HDr := Lib.hid hD
      clear hD HD
      have hbd := tokAt_bd d s i hlt
      have HS := Lib.hid (lexFrom_step d s i hlt)
      go_wp2_with (first
        | (go_at_call 20; refine (refAt_any ⟨Ac, nc, cc, An, nn, cn, Aa, na, ca⟩ d k w.heap.size i s wr HDr.out (by omega) ho hlt (by omega)).mono ?_; rintro e w1 ⟨rfl, hb1⟩; have hown1 := own_below hown hb1)
        | (at_builtin; go_must (refine wpList_append_own _ rfl _ _ 32 rfl (w.heap.size + 1) 47 i0 (.agg #[.int .i64 0, .int .i64 0, .string ⟨#[]⟩, .int .i64 0]) 4 40 Try.underlying32 hi0 hz0 hz1 hz2 rfl (by decide) _ acc.length (toks acc) rfl ?hown ⟨w1.heap.size + 1, 0, none⟩ 1 1 (tokAt d s i).cells rfl rfl ?c1 ?c2 ?c3 ?c4 ?c5 ?_)))
      case hown => exact (hown1.alloc _).alloc _
      case c1 =>
        intro j u hj
        rw [Addr.add_lit, (Blk.new' _ _ _ (by simp)).cell]
        simpa [Tok.cells] using hj
      case c2 =>
        intro u hu
        simp [Tok.cells] at hu
        rcases hu with rfl | rfl | rfl | rfl <;> rfl
      case c3 => unfold maxLen; omega
      case c4 => omega
      case c5 => have := hb1.size; simp; omega
      · intro v' w2 hown' hgrow _
        have hs1 := hb1.size
        have hlt0 := hown.lt
        have T0 : Blk w2 w1.heap.size 47 (tokAt d s i).cells.toArray := ((Blk.new' _ _ _ rfl).alloc _).grown hgrow (fun e => by have := hlt0 _ e.symm; omega)
        have t2 := T0.cell 2
        simp [Tok.cells] at t2
        have B2 : Blk w2 w.heap.size 25 #[.slice Ac nc cc, .slice An nn cn, .slice Aa na ca] := (((B0.below hb1 (by omega)).alloc _).alloc _).grown hgrow (fun e => by have := hlt0 _ e.symm; omega)
        have R := lex_push (t := tokAt d s i) (((hb.trans (hb1.mono hsz)).alloc (by omega) _).alloc (by simp; omega) _) (by simp) hown' hgrow ((hown1.alloc _).alloc _)
        clear hown' hgrow hown1 hown T0
        go_wp2_with fail
        go_roundw
        case rel =>
          refine ⟨i + (tokAt d s i).text.size, acc ++ [tokAt d s i], by omega, by simp; omega, by go_num, R.1, B2, R.2, ?_⟩
          have := HL.out
          rw [HS.out] at this
          have h3 : (acc ++ [tokAt d s i]) ++ lexFrom d s (s.size - (i + (tokAt d s i).text.size)) (i + (tokAt d s i).text.size) = lexL d s := by simpa using this
          exact h3
        case measure => simp [intOf]; omega
    · have hil : i = s.size := by omega
      have e1 := HL.out
      rw [lexFrom_end d s _ i (by omega), List.append_nil] at e1
      subst e1
      obtain ⟨A, c, rfl, hc1, hc2⟩ := own_form hown
      go_wp2_with fail
      go_ret
      exact ⟨A, c, rfl, hc1, hc2, Reads.of_own hown, ((Below.refl _ _).alloc (Nat.le_refl _) _).trans (hb.mono (by omega))⟩

end Go.Proofs.Ythpdfgfefmoaaaa
