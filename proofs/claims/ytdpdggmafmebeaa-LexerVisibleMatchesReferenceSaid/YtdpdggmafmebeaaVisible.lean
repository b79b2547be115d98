/- Visible, the lexer's and the reference's, returns the tokens that are not skipped. -/
import Derived.Test.YtdpdggmafmebeaaLex
namespace Go.Proofs.Ytdpdggmafmebeaa
open Go.RowKit

/-- The kinds of the definitions, as they lie in memory. -/
def Kinds (w : World) (B : Nat) (A : Option Addr) (n : Nat) (ks : List Int) : Prop :=
  ks.length = n ∧ (0 < n → ∃ b off, A = some ⟨b, off, none⟩ ∧ b < B ∧ ∀ k, k < n → w.cell? ⟨b, off + k * 5 + 1, none⟩ = some (.int .i64 (ks[k]?.getD 0)))
theorem Kinds.keep {w w' : World} {B : Nat} {A : Option Addr} {n : Nat} {ks : List Int} (h : Kinds w B A n ks) (hk : ∀ p : Addr, p.block < B → w'.cell? p = w.cell? p) : Kinds w' B A n ks :=
  ⟨h.1, fun hn => by
    obtain ⟨b, off, e, hb, hc⟩ := h.2 hn
    exact ⟨b, off, e, hb, fun k hkn => (hk _ hb).trans (hc k hkn)⟩⟩
theorem Kinds.more {w : World} {B B' : Nat} {A : Option Addr} {n : Nat} {ks : List Int} (h : Kinds w B A n ks) (hB : B ≤ B') : Kinds w B' A n ks :=
  ⟨h.1, fun hn => by
    obtain ⟨b, off, e, hb, hc⟩ := h.2 hn
    exact ⟨b, off, e, by omega, hc⟩⟩
theorem Kinds.below {w w' : World} {B : Nat} {A : Option Addr} {n : Nat} {ks : List Int} (h : Kinds w B A n ks) (hb : Below B w w') : Kinds w' B A n ks := h.keep fun _ hp => hb.cell hp

def keepT (ks : List Int) (t : Tok) : Bool := decide (t.kind < 0) || (decide ((ks.length : Int) ≤ t.kind) || ks[t.kind.toNat]?.getD 0 != 2)
def visL (ks : List Int) (l : List Tok) : List Tok := l.filter (keepT ks)
theorem visL_snoc (ks : List Int) (l : List Tok) (k : Nat) (t : Tok) (h : l[k]? = some t) : visL ks (l.take (k + 1)) = if keepT ks t then visL ks (l.take k) ++ [t] else visL ks (l.take k) := by
  rw [List.take_add_one, h]
  simp only [visL, Option.toList_some, List.filter_append, List.filter_cons, List.filter_nil]
  split <;> simp
theorem visL_vis (ks : List Int) (l : List Tok) : visL ks (visL ks l) = visL ks l := by simp [visL]
theorem visL_len (ks : List Int) (l : List Tok) : (visL ks l).length ≤ l.length := List.length_filter_le _ _

set_option maxHeartbeats 1000000 in
theorem visible_any (Ad : Option Addr) (nd cd : Nat) (ly : Bool) (ms uc : Int) (ks : List Int) (A : Option Addr) (n c B : Nat) (l : List Tok) (w : World) (hk : Kinds w B Ad nd ks) (hl : Reads w B 4 A n (toks l)) (hB : B ≤ w.heap.size) (hnd : nd ≤ 60) (hn : n ≤ 60) :
    Calls Try.prog 17 #[.agg #[.slice Ad nd cd, .bool ly, .int .i64 ms, .int .i64 uc], .slice A n c] w (RetToks (visL ks l) w) := by
  obtain ⟨i0, hi0, hz0, hz1, hz2⟩ := info_parts Try.infoTok
  have HK := Lib.hid hk
  have HL := Lib.hid hl
  have hln := hl.len_toks
  have HLN := Lib.hid hln
  have HKN := Lib.hid hk.1
  clear hk hl hln
  go_enter Try.func17, Try.ntmps17
  go_wp2_with fail
  go_loopw [5, 10] (fun v a wr => ∃ (k : Nat) (acc : List Tok), k ≤ n ∧ acc.length ≤ k ∧ a = .int .i64 k ∧ wr.ownsRow (w.heap.size + 1) 32 4 v acc.length (toks acc) ∧
      Blk wr w.heap.size 39 #[.slice Ad nd cd, .bool ly, .int .i64 ms, .int .i64 uc] ∧ Below (w.heap.size + 1) (w.alloc (.cells #[.slice Ad nd cd, .bool ly, .int .i64 ms, .int .i64 uc] 39)) wr ∧
      Hid (acc = visL ks (l.take k))) (fun _ a _ => n - (intOf a).toNat)
  case atStart => exact ⟨0, [], by omega, by simp, rfl, World.ownsRow_nil _ _ _ _, Blk.new' _ _ _ rfl, Below.refl _ _, rfl⟩
  case round =>
    obtain ⟨k, acc, hk, hacc, rfl, hown, B0, hb, HA⟩ := hrel
    have b0 := B0.cell 0
    simp at b0
    have hsz := hb.size
    simp only [World.size_alloc] at hsz
    have nb : w.heap.size ≠ wr.heap.size := by omega
    have hbw : Below B w wr := (((Below.refl w.heap.size w).alloc (Nat.le_refl _) _).trans (hb.mono (by omega))).mono hB
    by_cases hlt : k < n
    · obtain ⟨b, off, t, rfl, hbl, ht, h0, h1, h2, h3⟩ := (HL.out.below hbw).tok_at hlt
      have HS := Lib.hid (visL_snoc ks l k t ht)
      have hne := Nat.ne_of_lt (World.block_lt_of_cell? wr _ h0)
      obtain ⟨tk, tp, tt, tl⟩ := t
      simp only at h0 h1 h2 h3
      clear ht
      by_cases hkeep : keepT ks ⟨tk, tp, tt, tl⟩ = true
      · obtain hkp : tk < 0 ∨ (0 ≤ tk ∧ (nd : Int) ≤ tk) ∨ (0 ≤ tk ∧ tk < nd ∧ ks[tk.toNat]?.getD 0 ≠ 2) := by
          have := HKN.out
          simp [keepT] at hkeep
          omega
        have HKP := Lib.hid hkeep
        clear hkeep
        rcases hkp with g0 | ⟨g0, g1⟩ | ⟨g0, g1, g2⟩
        · have g1 : decide (tk < 0) = true := by simp [g0]
          go_wp2_with (at_builtin; refine wpList_append_own _ rfl _ _ 29 rfl (w.heap.size + 1) 32 i0 (.agg #[.int .i64 0, .int .i64 0, .string ⟨#[]⟩, .int .i64 0]) 4 40 Try.underlying29 hi0 hz0 hz1 hz2 rfl (by decide) _ acc.length (toks acc) rfl ((hown.alloc _).alloc _) ⟨wr.heap.size + 1, 0, none⟩ 1 1 (Tok.cells ⟨tk, tp, tt, tl⟩) rfl rfl ?_ ?_ ?_ ?_ ?_ ?_)
          · intro j u hj
            first | (rw [Addr.add_lit, (Blk.new' _ _ _ (by simp)).cell]; simpa [Tok.cells] using hj) | simpa [Tok.cells] using hj
          · intro u hu
            simp [Tok.cells] at hu
            rcases hu with rfl | rfl | rfl | rfl <;> rfl
          · unfold maxLen; omega
          · omega
          · first | omega | (simp; omega)
          intro v' w2 hown' hgrow _
          have hlt0 := hown.lt
          have B2 : Blk w2 w.heap.size 39 #[.slice Ad nd cd, .bool ly, .int .i64 ms, .int .i64 uc] := ((B0.alloc _).alloc _).grown hgrow (fun e => by have := hlt0 _ e.symm; omega)
          have R := lex_push (t := ⟨tk, tp, tt, tl⟩) ((hb.alloc (by omega) _).alloc (by simp; omega) _) (by simp) hown' hgrow ((hown.alloc _).alloc _)
          clear hown' hgrow hown
          go_wp2_with fail
          go_roundw
          case rel =>
            refine ⟨k + 1, acc ++ [⟨tk, tp, tt, tl⟩], by omega, by simp; omega, by go_num, R.1, B2, R.2, ?_⟩
            have := HS.out
            rw [if_pos HKP.out, ← HA.out] at this
            exact this.symm
          case measure => simp [intOf]; omega
        · obtain ⟨kn, rfl⟩ := Int.eq_ofNat_of_zero_le g0
          have b1 := cell_alloc b0 (.cells #[.int .i64 kn, .int .i64 tp, .string tt, .int .i64 tl] 32)
          have e0 : decide ((kn : Int) < 0) = false := by simp
          have e1 : decide (nd ≤ kn) = true := by simp; omega
          have e2 : nd ≤ kn := by omega
          have e3 : decide (kn < nd) = false := by simp; omega
          go_wp2_with (at_builtin; refine wpList_append_own _ rfl _ _ 29 rfl (w.heap.size + 1) 32 i0 (.agg #[.int .i64 0, .int .i64 0, .string ⟨#[]⟩, .int .i64 0]) 4 40 Try.underlying29 hi0 hz0 hz1 hz2 rfl (by decide) _ acc.length (toks acc) rfl ((hown.alloc _).alloc _) ⟨wr.heap.size + 1, 0, none⟩ 1 1 (Tok.cells ⟨kn, tp, tt, tl⟩) rfl rfl ?_ ?_ ?_ ?_ ?_ ?_)
          · intro j u hj
            first | (rw [Addr.add_lit, (Blk.new' _ _ _ (by simp)).cell]; simpa [Tok.cells] using hj) | simpa [Tok.cells] using hj
          · intro u hu
            simp [Tok.cells] at hu
            rcases hu with rfl | rfl | rfl | rfl <;> rfl
          · unfold maxLen; omega
          · omega
          · first | omega | (simp; omega)
          intro v' w2 hown' hgrow _
          have hlt0 := hown.lt
          have B2 : Blk w2 w.heap.size 39 #[.slice Ad nd cd, .bool ly, .int .i64 ms, .int .i64 uc] := ((B0.alloc _).alloc _).grown hgrow (fun e => by have := hlt0 _ e.symm; omega)
          have R := lex_push (t := ⟨kn, tp, tt, tl⟩) ((hb.alloc (by omega) _).alloc (by simp; omega) _) (by simp) hown' hgrow ((hown.alloc _).alloc _)
          clear hown' hgrow hown
          go_wp2_with fail
          go_roundw
          case rel =>
            refine ⟨k + 1, acc ++ [⟨kn, tp, tt, tl⟩], by omega, by simp; omega, by go_num, R.1, B2, R.2, ?_⟩
            have := HS.out
            rw [if_pos HKP.out, ← HA.out] at this
            exact this.symm
          case measure => simp [intOf]; omega
        · obtain ⟨kn, rfl⟩ := Int.eq_ofNat_of_zero_le g0
          obtain ⟨bd, od, rfl, hbd, hcd⟩ := (HK.out.below hbw).2 (by omega)
          have hc := hcd kn (by omega)
          clear hcd
          rw [Int.toNat_natCast] at g2
          generalize ks[kn]?.getD 0 = kd at hc g2
          have b1 := cell_alloc b0 (.cells #[.int .i64 kn, .int .i64 tp, .string tt, .int .i64 tl] 32)
          have c1 := cell_alloc hc (.cells #[.int .i64 kn, .int .i64 tp, .string tt, .int .i64 tl] 32)
          have e0 : decide ((kn : Int) < 0) = false := by simp
          have e1 : decide (nd ≤ kn) = false := by simp; omega
          have e2 : kn < nd := by omega
          have e3 : decide (kn < nd) = true := by simp; omega
          have e4 : (kd != 2) = true := by simp [g2]
          have e5 : (kd == 2) = false := by simp [g2]
          have g2' : ¬ kd = 2 := g2
          clear g2
          go_wp2_with (at_builtin; refine wpList_append_own _ rfl _ _ 29 rfl (w.heap.size + 1) 32 i0 (.agg #[.int .i64 0, .int .i64 0, .string ⟨#[]⟩, .int .i64 0]) 4 40 Try.underlying29 hi0 hz0 hz1 hz2 rfl (by decide) _ acc.length (toks acc) rfl ((hown.alloc _).alloc _) ⟨wr.heap.size + 1, 0, none⟩ 1 1 (Tok.cells ⟨kn, tp, tt, tl⟩) rfl rfl ?_ ?_ ?_ ?_ ?_ ?_)
          · intro j u hj
            first | (rw [Addr.add_lit, (Blk.new' _ _ _ (by simp)).cell]; simpa [Tok.cells] using hj) | simpa [Tok.cells] using hj
          · intro u hu
            simp [Tok.cells] at hu
            rcases hu with rfl | rfl | rfl | rfl <;> rfl
          · unfold maxLen; omega
          · omega
          · first | omega | (simp; omega)
          intro v' w2 hown' hgrow _
          have hlt0 := hown.lt
          have B2 : Blk w2 w.heap.size 39 #[.slice (some ⟨bd, od, none⟩) nd cd, .bool ly, .int .i64 ms, .int .i64 uc] := ((B0.alloc _).alloc _).grown hgrow (fun e => by have := hlt0 _ e.symm; omega)
          have R := lex_push (t := ⟨kn, tp, tt, tl⟩) ((hb.alloc (by omega) _).alloc (by simp; omega) _) (by simp) hown' hgrow ((hown.alloc _).alloc _)
          clear hown' hgrow hown
          go_wp2_with fail
          go_roundw
          case rel =>
            refine ⟨k + 1, acc ++ [⟨kn, tp, tt, tl⟩], by omega, by simp; omega, by go_num, R.1, B2, R.2, ?_⟩
            have := HS.out
            rw [if_pos HKP.out, ← HA.out] at this
            exact this.symm
          case measure => simp [intOf]; omega
      · have hkp : ¬ tk < 0 ∧ tk < (nd : Int) ∧ ks[tk.toNat]?.getD 0 = 2 := by
          have := HKN.out
          simp [keepT] at hkeep
          omega
        obtain ⟨hk0, hk1, hk2⟩ := hkp
        obtain ⟨kn, rfl⟩ := Int.eq_ofNat_of_zero_le (Int.not_lt.1 hk0)
        obtain ⟨bd, od, rfl, hbd, hcd⟩ := (HK.out.below hbw).2 (by omega)
        have hc := hcd kn (by omega)
        rw [Int.toNat_natCast] at hk2
        rw [hk2] at hc
        have b1 := cell_alloc b0 (.cells #[.int .i64 kn, .int .i64 tp, .string tt, .int .i64 tl] 32)
        have c1 := cell_alloc hc (.cells #[.int .i64 kn, .int .i64 tp, .string tt, .int .i64 tl] 32)
        have HKP := Lib.hid hkeep
        have g0 : decide ((kn : Int) < 0) = false := by simp
        have g1 : decide (nd ≤ kn) = false := by simp; omega
        have g2 : kn < nd := by omega
        have g3 : ((2 : Int) != 2) = false := by simp
        clear hkeep hk2 hcd hk0
        go_wp2_with fail
        go_roundw
        case rel =>
          refine ⟨k + 1, acc, by omega, by omega, by go_num, hown.alloc _, B0.alloc _, hb.alloc (by omega) _, ?_⟩
          have := HS.out
          rw [if_neg HKP.out] at this
          exact HA.out.trans this.symm
        case measure => simp [intOf]; omega
    · have hkl : l.take k = l := List.take_of_length_le (by have := HLN.out; omega)
      have e1 := HA.out
      rw [hkl] at e1
      subst e1
      obtain ⟨A', c', rfl, hc1, hc2⟩ := own_form hown
      go_wp2_with fail
      go_ret
      exact ⟨A', c', rfl, hc1, hc2, Reads.of_own hown, ((Below.refl _ _).alloc (Nat.le_refl _) _).trans (hb.mono (by omega))⟩
set_option maxHeartbeats 1000000 in
theorem refVisible_any (Ad : Option Addr) (nd cd : Nat) (ly : Bool) (ms uc : Int) (ks : List Int) (A : Option Addr) (n c B : Nat) (l : List Tok) (w : World) (hk : Kinds w B Ad nd ks) (hl : Reads w B 4 A n (toks l)) (hB : B ≤ w.heap.size) (hnd : nd ≤ 60) (hn : n ≤ 60) :
    Calls Try.prog 18 #[.agg #[.slice Ad nd cd, .bool ly, .int .i64 ms, .int .i64 uc], .slice A n c] w (RetToks (visL ks l) w) := by
  obtain ⟨i0, hi0, hz0, hz1, hz2⟩ := info_parts Try.infoTok
  have HK := Lib.hid hk
  have HL := Lib.hid hl
  have hln := hl.len_toks
  have HLN := Lib.hid hln
  have HKN := Lib.hid hk.1
  clear hk hl hln
  go_enter Try.func18, Try.ntmps18
  go_wp2_with fail
  go_loopw [5, 6] (fun v a wr => ∃ (k : Nat) (acc : List Tok), k ≤ n ∧ acc.length ≤ k ∧ a = .int .i64 k ∧ wr.ownsRow (w.heap.size + 1) 32 4 v acc.length (toks acc) ∧
      Blk wr w.heap.size 39 #[.slice Ad nd cd, .bool ly, .int .i64 ms, .int .i64 uc] ∧ Below (w.heap.size + 1) (w.alloc (.cells #[.slice Ad nd cd, .bool ly, .int .i64 ms, .int .i64 uc] 39)) wr ∧
      Hid (acc = visL ks (l.take k))) (fun _ a _ => n - (intOf a).toNat)
  case atStart => exact ⟨0, [], by omega, by simp, rfl, World.ownsRow_nil _ _ _ _, Blk.new' _ _ _ rfl, Below.refl _ _, rfl⟩
  case round =>
    obtain ⟨k, acc, hk, hacc, rfl, hown, B0, hb, HA⟩ := hrel
    have b0 := B0.cell 0
    simp at b0
    have hsz := hb.size
    simp only [World.size_alloc] at hsz
    have nb : w.heap.size ≠ wr.heap.size := by omega
    have hbw : Below B w wr := (((Below.refl w.heap.size w).alloc (Nat.le_refl _) _).trans (hb.mono (by omega))).mono hB
    by_cases hlt : k < n
    · obtain ⟨b, off, t, rfl, hbl, ht, h0, h1, h2, h3⟩ := (HL.out.below hbw).tok_at hlt
      have HS := Lib.hid (visL_snoc ks l k t ht)
      have hne := Nat.ne_of_lt (World.block_lt_of_cell? wr _ h0)
      obtain ⟨tk, tp, tt, tl⟩ := t
      simp only at h0 h1 h2 h3
      clear ht
      by_cases hkeep : keepT ks ⟨tk, tp, tt, tl⟩ = true
      · obtain hkp : tk < 0 ∨ (0 ≤ tk ∧ (nd : Int) ≤ tk) ∨ (0 ≤ tk ∧ tk < nd ∧ ks[tk.toNat]?.getD 0 ≠ 2) := by
          have := HKN.out
          simp [keepT] at hkeep
          omega
        have HKP := Lib.hid hkeep
        clear hkeep
        rcases hkp with g0 | ⟨g0, g1⟩ | ⟨g0, g1, g2⟩
        · have g1 : decide (tk < 0) = true := by simp [g0]
          go_wp2_with (at_builtin; refine wpList_append_own _ rfl _ _ 29 rfl (w.heap.size + 1) 32 i0 (.agg #[.int .i64 0, .int .i64 0, .string ⟨#[]⟩, .int .i64 0]) 4 40 Try.underlying29 hi0 hz0 hz1 hz2 rfl (by decide) _ acc.length (toks acc) rfl (hown.alloc _) ⟨wr.heap.size, 0, none⟩ 1 1 (Tok.cells ⟨tk, tp, tt, tl⟩) rfl rfl ?_ ?_ ?_ ?_ ?_ ?_)
          · intro j u hj
            first | (rw [Addr.add_lit, (Blk.new' _ _ _ rfl).cell]; simpa [Tok.cells] using hj) | simpa [Tok.cells] using hj
          · intro u hu
            simp [Tok.cells] at hu
            rcases hu with rfl | rfl | rfl | rfl <;> rfl
          · unfold maxLen; omega
          · omega
          · first | omega | (simp; omega)
          intro v' w2 hown' hgrow _
          have hlt0 := hown.lt
          have B2 : Blk w2 w.heap.size 39 #[.slice Ad nd cd, .bool ly, .int .i64 ms, .int .i64 uc] := (B0.alloc _).grown hgrow (fun e => by have := hlt0 _ e.symm; omega)
          have R := lex_push (t := ⟨tk, tp, tt, tl⟩) (hb.alloc (by omega) _) (by simp) hown' hgrow (hown.alloc _)
          clear hown' hgrow hown
          go_wp2_with fail
          go_roundw
          case rel =>
            refine ⟨k + 1, acc ++ [⟨tk, tp, tt, tl⟩], by omega, by simp; omega, by go_num, R.1, B2, R.2, ?_⟩
            have := HS.out
            rw [if_pos HKP.out, ← HA.out] at this
            exact this.symm
          case measure => simp [intOf]; omega
        · obtain ⟨kn, rfl⟩ := Int.eq_ofNat_of_zero_le g0
          have e0 : decide ((kn : Int) < 0) = false := by simp
          have e1 : decide (nd ≤ kn) = true := by simp; omega
          have e2 : nd ≤ kn := by omega
          have e3 : decide (kn < nd) = false := by simp; omega
          go_wp2_with (at_builtin; refine wpList_append_own _ rfl _ _ 29 rfl (w.heap.size + 1) 32 i0 (.agg #[.int .i64 0, .int .i64 0, .string ⟨#[]⟩, .int .i64 0]) 4 40 Try.underlying29 hi0 hz0 hz1 hz2 rfl (by decide) _ acc.length (toks acc) rfl (hown.alloc _) ⟨wr.heap.size, 0, none⟩ 1 1 (Tok.cells ⟨kn, tp, tt, tl⟩) rfl rfl ?_ ?_ ?_ ?_ ?_ ?_)
          · intro j u hj
            first | (rw [Addr.add_lit, (Blk.new' _ _ _ rfl).cell]; simpa [Tok.cells] using hj) | simpa [Tok.cells] using hj
          · intro u hu
            simp [Tok.cells] at hu
            rcases hu with rfl | rfl | rfl | rfl <;> rfl
          · unfold maxLen; omega
          · omega
          · first | omega | (simp; omega)
          intro v' w2 hown' hgrow _
          have hlt0 := hown.lt
          have B2 : Blk w2 w.heap.size 39 #[.slice Ad nd cd, .bool ly, .int .i64 ms, .int .i64 uc] := (B0.alloc _).grown hgrow (fun e => by have := hlt0 _ e.symm; omega)
          have R := lex_push (t := ⟨kn, tp, tt, tl⟩) (hb.alloc (by omega) _) (by simp) hown' hgrow (hown.alloc _)
          clear hown' hgrow hown
          go_wp2_with fail
          go_roundw
          case rel =>
            refine ⟨k + 1, acc ++ [⟨kn, tp, tt, tl⟩], by omega, by simp; omega, by go_num, R.1, B2, R.2, ?_⟩
            have := HS.out
            rw [if_pos HKP.out, ← HA.out] at this
            exact this.symm
          case measure => simp [intOf]; omega
        · obtain ⟨kn, rfl⟩ := Int.eq_ofNat_of_zero_le g0
          obtain ⟨bd, od, rfl, hbd, hcd⟩ := (HK.out.below hbw).2 (by omega)
          have hc := hcd kn (by omega)
          clear hcd
          rw [Int.toNat_natCast] at g2
          generalize ks[kn]?.getD 0 = kd at hc g2
          have e0 : decide ((kn : Int) < 0) = false := by simp
          have e1 : decide (nd ≤ kn) = false := by simp; omega
          have e2 : kn < nd := by omega
          have e3 : decide (kn < nd) = true := by simp; omega
          have e4 : (kd != 2) = true := by simp [g2]
          have e5 : (kd == 2) = false := by simp [g2]
          have g2' : ¬ kd = 2 := g2
          clear g2
          go_wp2_with (at_builtin; refine wpList_append_own _ rfl _ _ 29 rfl (w.heap.size + 1) 32 i0 (.agg #[.int .i64 0, .int .i64 0, .string ⟨#[]⟩, .int .i64 0]) 4 40 Try.underlying29 hi0 hz0 hz1 hz2 rfl (by decide) _ acc.length (toks acc) rfl (hown.alloc _) ⟨wr.heap.size, 0, none⟩ 1 1 (Tok.cells ⟨kn, tp, tt, tl⟩) rfl rfl ?_ ?_ ?_ ?_ ?_ ?_)
          · intro j u hj
            first | (rw [Addr.add_lit, (Blk.new' _ _ _ rfl).cell]; simpa [Tok.cells] using hj) | simpa [Tok.cells] using hj
          · intro u hu
            simp [Tok.cells] at hu
            rcases hu with rfl | rfl | rfl | rfl <;> rfl
          · unfold maxLen; omega
          · omega
          · first | omega | (simp; omega)
          intro v' w2 hown' hgrow _
          have hlt0 := hown.lt
          have B2 : Blk w2 w.heap.size 39 #[.slice (some ⟨bd, od, none⟩) nd cd, .bool ly, .int .i64 ms, .int .i64 uc] := (B0.alloc _).grown hgrow (fun e => by have := hlt0 _ e.symm; omega)
          have R := lex_push (t := ⟨kn, tp, tt, tl⟩) (hb.alloc (by omega) _) (by simp) hown' hgrow (hown.alloc _)
          clear hown' hgrow hown
          go_wp2_with fail
          go_roundw
          case rel =>
            refine ⟨k + 1, acc ++ [⟨kn, tp, tt, tl⟩], by omega, by simp; omega, by go_num, R.1, B2, R.2, ?_⟩
            have := HS.out
            rw [if_pos HKP.out, ← HA.out] at this
            exact this.symm
          case measure => simp [intOf]; omega
      · have hkp : ¬ tk < 0 ∧ tk < (nd : Int) ∧ ks[tk.toNat]?.getD 0 = 2 := by
          have := HKN.out
          simp [keepT] at hkeep
          omega
        obtain ⟨hk0, hk1, hk2⟩ := hkp
        obtain ⟨kn, rfl⟩ := Int.eq_ofNat_of_zero_le (Int.not_lt.1 hk0)
        obtain ⟨bd, od, rfl, hbd, hcd⟩ := (HK.out.below hbw).2 (by omega)
        have hc := hcd kn (by omega)
        rw [Int.toNat_natCast] at hk2
        rw [hk2] at hc
        have HKP := Lib.hid hkeep
        have g0 : decide ((kn : Int) < 0) = false := by simp
        have g1 : decide (nd ≤ kn) = false := by simp; omega
        have g2 : kn < nd := by omega
        have g3 : ((2 : Int) == 2) = true := by simp
        have g4 : decide (kn < nd) = true := by simp; omega
        have g5 : (0 : Int) ≤ (kn : Int) := by omega
        clear hkeep hk2 hcd hk0
        go_wp2_with fail
        go_roundw
        case rel =>
          refine ⟨k + 1, acc, by omega, by omega, by go_num, hown, B0, hb, ?_⟩
          have := HS.out
          rw [if_neg HKP.out] at this
          exact HA.out.trans this.symm
        case measure => simp [intOf]; omega
    · have hkl : l.take k = l := List.take_of_length_le (by have := HLN.out; omega)
      have e1 := HA.out
      rw [hkl] at e1
      subst e1
      obtain ⟨A', c', rfl, hc1, hc2⟩ := own_form hown
      go_wp2_with fail
      go_ret
      exact ⟨A', c', rfl, hc1, hc2, Reads.of_own hown, ((Below.refl _ _).alloc (Nat.le_refl _) _).trans (hb.mono (by omega))⟩
end Go.Proofs.Ytdpdggmafmebeaa
