/- Relexing: what is kept. -/
import Derived.Test.YtibdcnmaodmghaaGreatDoorBase
import Derived.StillTailTactics
import Derived.Test.YtibdcnmaodmghaaGreatDoorEd
import Derived.Maps.AppendAt
import Derived.RegionTactic
import Derived.OwnWalk
section
namespace Go.Proofs.YtibdcnmaodmghaaGreatDoor
open Go.RowKit
set_option maxRecDepth 20000

set_option maxHeartbeats 1000000 in
theorem scanTok_any (Ac An Aa : Option Addr) (nc cc nn cn na ca : Nat) (d : Dfa) (k B gs gd i : Nat) (s : ByteArray) (w : World) (hd : DfaAt w B ⟨Ac, nc, cc, An, nn, cn, Aa, na, ca⟩ d) (hB : B ≤ w.heap.size) (ho : d.Ok k) (hi : i < s.size) (hs : s.size ≤ 9223372036854775000)
    (hS : Blk w gs 9 #[.string s]) (hD : Blk w gd 27 #[.slice Ac nc cc, .slice An nn cn, .slice Aa na ca]) :
    Calls Tryz.prog 84 #[.int .i64 i, .pointer (some ⟨gs, 0, none⟩), .pointer (some ⟨gd, 0, none⟩)] w
      fun e w' => e = .returned (.agg #[.int .i64 (tokAt d s i).kind, .int .i64 (tokAt d s i).pos, .string (tokAt d s i).text, .int .i64 (tokAt d s i).look]) ∧ Below w.heap.size w w' := by
  have hpos := ho.pos
  have HP : Hid (if (0 : Int) < 0 then ((-1 : Int), 1, 0) = scan0 d s i else scan d s i (s.size - i - 0) (0 : Int).toNat 0 (-1) 1 = scan0 d s i) := by
    show if (0 : Int) < 0 then ((-1 : Int), 1, 0) = scan0 d s i else scan d s i (s.size - i - 0) (0 : Int).toNat 0 (-1) 1 = scan0 d s i
    rw [if_neg (by omega)]; rfl
  have hbc := hd.bc
  have hbn := hd.bn
  have hba := hd.ba
  have HD := Lib.hid (hd.more hB)
  have hSl := hS.lt
  have hDl := hD.lt
  have s0 := hS.cell 0
  simp at s0
  simp only [maxLen] at hbc hbn hba
  clear hd
  go_enter Tryz.func84, Tryz.ntmps84
  go_wp2_with fail
  go_loopw [6, 7] (fun a b wr => ∃ (st : Int) (look size : Nat) (kind : Int), -1 ≤ st ∧ st < d.next.length ∧ (0 ≤ st → i + look ≤ s.size) ∧ i + look ≤ s.size + 1 ∧ 1 ≤ size ∧ i + size ≤ s.size ∧ a = .int .i64 st ∧ b = .int .i64 (i + look : Nat) ∧
      Blk wr w.heap.size 110 #[.int .i64 0, .int .i64 0, .string ⟨#[]⟩, .int .i64 0] ∧
      Blk wr (w.heap.size + 1) 110 #[.int .i64 kind, .int .i64 i, .string (s.extract i (i + size)), .int .i64 look] ∧
      Below w.heap.size w wr ∧ Hid (DfaAt wr w.heap.size ⟨Ac, nc, cc, An, nn, cn, Aa, na, ca⟩ d) ∧
      Hid (if st < 0 then (kind, size, look) = scan0 d s i else scan d s i (s.size - i - look) st.toNat look kind size = scan0 d s i)) (fun _ b _ => s.size + 2 - (intOf b).toNat)
  case atStart =>
    refine ⟨0, 0, 1, -1, by omega, by omega, by omega, by omega, by omega, by omega, rfl, rfl, ?_, ?_, ?_, ?_, HP⟩
    · exact (Blk.new' w _ _ rfl).alloc _
    · exact Blk.new' (w.alloc _) _ _ (by simp)
    · exact ((Below.refl _ _).alloc (Nat.le_refl _) _).alloc (by simp) _
    · exact (HD.out.alloc (Nat.le_refl _) _).alloc (by simp) _
  case round =>
    obtain ⟨st, look, size, kind, hst1, hst, hlook, hlook2, hsz1, hsz, rfl, rfl, B1, B2, hb, HDr, HS⟩ := hrel
    clear HD HP
    have t0 := B2.cell 0
    have t1 := B2.cell 1
    have t2 := B2.cell 2
    have t3 := B2.cell 3
    have tf := B2.frozen 3
    have r0 := B1.cell 0
    have r1 := B1.cell 1
    have r2 := B1.cell 2
    have r3 := B1.cell 3
    have f0 := B1.frozen 0
    have f1 := B1.frozen 1
    have f2 := B1.frozen 2
    have f3 := B1.frozen 3
    simp at t0 t1 t2 t3 r0 r1 r2 r3
    by_cases hst0 : st < 0
    · have e1 := HS.out
      rw [if_pos hst0] at e1
      have e2 : tokAt d s i = ⟨kind, i, s.extract i (i + size), look⟩ := by simp [tokAt, ← e1]
      have E2 := Lib.hid e2
      have hdec : decide (0 ≤ st) = false := by simp; omega
      clear e1 e2
      go_wp2_with fail
      have b2 := B1.set4 (.int .i64 kind) (.int .i64 i) (.string (s.extract i (i + size))) (.int .i64 look)
      refine bodyPost_ret (results_tok rfl rfl (b2.cell 0) (b2.cell 1) (b2.cell 2) (b2.cell 3)) rfl ⟨by rw [E2.out], ?_⟩
      exact (((hb.setCell (by simp) _).setCell (by simp) _).setCell (by simp) _).setCell (by simp) _
    obtain ⟨st, rfl⟩ := Int.eq_ofNat_of_zero_le (Int.not_lt.1 hst0)
    have hsd : decide ((0 : Int) ≤ (st : Int)) = true := by simp
    have HS1 := HS.out
    rw [if_neg hst0, Int.toNat_natCast] at HS1
    have HS := Lib.hid HS1
    have hstl : st < d.next.length := by omega
    have hlk := hlook (by omega)
    clear HS1 hlook hst0 hst1 hst
    have S' := hS.below hb hSl
    have D' := hD.below hb hDl
    have k0 := S'.cell 0
    simp at k0
    by_cases he : i + look = s.size
    · have he' : ((i : Int) + (look : Int) == (s.size : Int)) = true := by simp; omega
      have e1 := HS.out.symm.trans (scan_end d s i st look kind size _ (by omega))
      have e2 : tokAt d s i = ⟨kind, i, s.extract i (i + size), look + 1⟩ := by simp [tokAt, e1]
      have E2 := Lib.hid e2
      have HE := Lib.hid he
      have k1 := (S'.far (p := ⟨w.heap.size + 1, 3, none⟩) (by simp; omega) (.int .i64 ((look : Int) + 1))).cell 0
      simp at k1
      clear he e1 e2
      go_wp2_with fail
      have b2 := (B1.far (p := ⟨w.heap.size + 1, 3, none⟩) (by simp) (.int .i64 ((look : Int) + 1))).set4 (.int .i64 kind) (.int .i64 i) (.string (s.extract i (i + size))) (.int .i64 ((look : Int) + 1))
      refine bodyPost_ret (results_tok rfl rfl (b2.cell 0) (b2.cell 1) (b2.cell 2) (b2.cell 3)) rfl ⟨by rw [E2.out], ?_⟩
      exact ((((hb.setCell (by simp) _).setCell (by simp) _).setCell (by simp) _).setCell (by simp) _).setCell (by simp) _
    · have hlt : i + look < s.size := by omega
      have he' : ((i : Int) + (look : Int) == (s.size : Int)) = false := by simp; omega
      have HL := Lib.hid hlt
      have HE := Lib.hid he
      clear he
      have w2 : (0 : Int) ≤ (i : Int) + look := by omega
      have w3 : ((i : Int) + look).toNat = i + look := by omega
      have w4 : (i : Int) + (look : Int) < (s.size : Int) := by omega
      have hbd := ho.to_bd hstl (s[i + look]'hlt)
      have hbe : d.to st (byteAt s (i + look)) = d.to st (s[i + look]'hlt) := by rw [byteAt_eq s _ hlt]
      have HBE := Lib.hid hbe
      clear hbe
      have S1 := S'.far (p := ⟨w.heap.size + 1, 3, none⟩) (by simp; omega) (.int .i64 ((look : Int) + 1))
      have D1 := D'.far (p := ⟨w.heap.size + 1, 3, none⟩) (by simp; omega) (.int .i64 ((look : Int) + 1))
      have T2 := B2.set_ 3 (.int .i64 ((look : Int) + 1))
      have T1 := B1.far (p := ⟨w.heap.size + 1, 3, none⟩) (by simp) (.int .i64 ((look : Int) + 1))
      have hb1 := hb.setCell (p := ⟨w.heap.size + 1, 3, none⟩) (by simp) (.int .i64 ((look : Int) + 1))
      have HD1 := HDr.out.keep (w' := wr.setCell ⟨w.heap.size + 1, 3, none⟩ (.int .i64 ((look : Int) + 1))) (fun p hp => World.cell?_setCell_other _ _ _ _ (fun e => by subst e; simp at hp; omega))
      obtain ⟨W1, hW1⟩ : ∃ W1, wr.setCell ⟨w.heap.size + 1, 3, none⟩ (.int .i64 ((look : Int) + 1)) = W1 := ⟨_, rfl⟩
      rw [hW1] at S1 D1 T2 T1 hb1 HD1
      have WW := Lib.hid hW1
      clear hW1
      simp at T2
      have a0 := S1.cell 0
      have a1 := D1.cell 0
      have a2 := D1.cell 1
      have a3 := D1.cell 2
      simp at a0 a1 a2 a3
      have v0 := T2.cell 0
      have v1 := T2.cell 1
      have v2 := T2.cell 2
      have v3 := T2.cell 3
      have vf0 := T2.frozen 0
      have vf2 := T2.frozen 2
      simp at v0 v1 v2 v3
      obtain ⟨bc, oc, bn, on, br, or_, n, c, cl, q2, q1, l2, l1, l3, hsn, hbn', hcn, hn, c2, c1, c3⟩ := HD1.step_at ho hstl (s[i + look]'hlt)
      simp only at q1 q2 hsn hbn'
      subst q1; subst q2
      simp only [maxLen] at hn
      by_cases hx : d.to st (s[i + look]'hlt) < 0
      · have hdec : decide (0 ≤ d.to st (s[i + look]'hlt)) = false := by simp; omega
        have e1 := HS.out.symm.trans (scan_stop d s i st look kind size _ (by omega) (by rw [HBE.out]; exact hx))
        have E1 := Lib.hid e1
        clear e1
        go_wp2_with fail
        rw [WW.out]
        go_quiet (fail)
        go_wp2_with fail
        go_roundw
        case rel =>
          refine ⟨d.to st (s[i + look]'hlt), look + 1, size, kind, by omega, by omega, by omega, by omega, hsz1, hsz, rfl, by go_num, T1.drewN _, T2.drewN _, below_drewN hb1 _, HD1.drewN _, ?_⟩
          show if _ then _ else _
          rw [if_pos hx]; exact E1.out.symm
        case measure => simp [intOf]; omega
      · obtain ⟨x, hxe⟩ := Int.eq_ofNat_of_zero_le (Int.not_lt.1 hx)
        have hxl : x < d.next.length := by omega
        have hX : d.to st (byteAt s (i + look)) = x := by rw [HBE.out]; exact hxe
        have HX := Lib.hid hX
        rw [hxe] at c3
        have hxd : decide ((0 : Int) ≤ (x : Int)) = true := by simp
        obtain ⟨ba, oa, q3, l4, hxn, c4⟩ := HD1.acc_at ho hxl
        simp only at q3 hxn
        subst q3
        clear hxe hX hx hbd
        by_cases ha : 0 ≤ d.ac x
        · have had : decide (0 ≤ d.ac x) = true := by simp [ha]
          have hm : i + (look + 1) ≤ s.size := by omega
          go_wp2_with fail
          rw [WW.out]
          go_quiet (fail)
          go_wp2_with fail
          go_region
          all_goals go_wp2_with fail
          all_goals go_roundw
          case rel =>
            refine ⟨x, look + 1, look + 1, d.ac x, by omega, by omega, by omega, by omega, by omega, by omega, rfl, by go_num, ((T1.drewN _).far (by simp) _).far (by simp) _, ?_, ((below_drewN hb1 _).setCell (by simp) _).setCell (by simp) _, ((HD1.drewN _).setCell (by simp) _).setCell (by simp) _, ?_⟩
            · have h2 : ∀ q, Blk (((W1.drewN q).setCell ⟨w.heap.size + 1, 0, none⟩ (.int .i64 (d.ac x))).setCell ⟨w.heap.size + 1, 2, none⟩ (.string (s.extract i (i + (look + 1))))) (w.heap.size + 1) 110 #[.int .i64 (d.ac x), .int .i64 i, .string (s.extract i (i + (look + 1))), .int .i64 ((look : Int) + 1)] := fun q => by
                have := ((T2.drewN q).set_ 0 (.int .i64 (d.ac x))).set_ 2 (.string (s.extract i (i + (look + 1))))
                simpa using this
              exact h2 _
            · show if _ then _ else _
              rw [if_neg (by omega), Int.toNat_natCast]
              exact (scan_acc d s i st look kind size (s.size - i - look) (s.size - i - (look + 1)) x (by omega) HX.out ha).symm.trans HS.out
          case measure => simp [intOf]; omega
        · have had : decide (0 ≤ d.ac x) = false := by simp; omega
          go_wp2_with fail
          rw [WW.out]
          go_quiet (fail)
          go_wp2_with fail
          go_roundw
          case rel =>
            refine ⟨x, look + 1, size, kind, by omega, by omega, by omega, by omega, hsz1, hsz, rfl, by go_num, T1.drewN _, T2.drewN _, below_drewN hb1 _, HD1.drewN _, ?_⟩
            show if _ then _ else _
            rw [if_neg (by omega), Int.toNat_natCast]
            exact (scan_go d s i st look kind size (s.size - i - look) (s.size - i - (look + 1)) x (by omega) HX.out (by omega)).symm.trans HS.out
          case measure => simp [intOf]; omega
end Go.Proofs.YtibdcnmaodmghaaGreatDoor
end

section
namespace Go.Proofs.YtibdcnmaodmghaaGreatDoor
open Go.RowKit
set_option maxRecDepth 20000


def textFrom (s : ByteArray) (l : List Tok) : ByteArray := l.foldl (fun s t => s ++ t.text) s
def textL (l : List Tok) : ByteArray := textFrom ByteArray.empty l
theorem textFrom_size (l : List Tok) : ∀ s : ByteArray, s.size ≤ (textFrom s l).size := by
  induction l with
  | nil => intro s; exact Nat.le_refl _
  | cons t l ih =>
    intro s
    have := ih (s ++ t.text)
    simp only [textFrom, List.foldl_cons, ByteArray.size_append] at *
    omega
theorem textFrom_snoc (s : ByteArray) (l : List Tok) (t : Tok) : textFrom s (l ++ [t]) = textFrom s l ++ t.text := by simp [textFrom]
theorem textL_take (l : List Tok) (k : Nat) : (textL (l.take k)).size ≤ (textL l).size := by
  have h : textFrom ByteArray.empty (l.take k ++ l.drop k) = textFrom (textFrom ByteArray.empty (l.take k)) (l.drop k) := List.foldl_append
  rw [List.take_append_drop] at h
  simp only [textL]
  rw [h]
  exact textFrom_size _ _
theorem take_snoc_tok (l : List Tok) (k : Nat) (t : Tok) (h : l[k]? = some t) : l.take (k + 1) = l.take k ++ [t] := by
  rw [List.take_add_one, h]; rfl

set_option maxHeartbeats 1000000 in
theorem text_any (A : Option Addr) (n c B : Nat) (l : List Tok) (w : World) (hl : Reads w B 4 A n (toks l)) (hB : B ≤ w.heap.size) (hn : n ≤ maxLen) (hsz : (textL l).size ≤ 9223372036854775807) :
    Calls Tryz.prog 18 #[.slice A n c] w fun e w' => e = .returned (.string (textL l)) ∧ Below w.heap.size w w' := by
  unfold maxLen at hn
  have HSZ := Lib.hid hsz
  have HL := Lib.hid hl
  clear hsz hl
  go_enter Tryz.func18, Tryz.ntmps18
  go_wp2_with fail
  go_loopw [3, 8] (fun a b wr => ∃ (k : Nat) (T : ByteArray), k ≤ n ∧ b = .int .i64 k ∧ a = .string T ∧ Hid (T = textL (l.take k)) ∧ Below w.heap.size w wr) (fun _ b _ => n - (intOf b).toNat)
  case atStart => exact ⟨0, _, Nat.zero_le _, rfl, rfl, rfl, Below.refl _ _⟩
  case round =>
    obtain ⟨k, T, hk, rfl, rfl, HTe, hb⟩ := hrel
    by_cases hlt : k < n
    · have hr := HL.out.below (hb.mono hB)
      obtain ⟨b, off, t, rfl, hbB, ht, h0, h1, h2, h3⟩ := hr.tok_at hlt
      have HT := Lib.hid ht
      have e1 := textL_take l (k + 1)
      have e3 : textL (l.take (k + 1)) = T ++ t.text := by rw [take_snoc_tok l k t ht, textL, textFrom_snoc, HTe.out, textL]
      rw [e3, ByteArray.size_append] at e1
      have e2 : T.size + t.text.size ≤ 9223372036854775807 := Nat.le_trans e1 HSZ.out
      have H3 := Lib.hid e3
      clear ht e1 e3 hr
      go_wp2_with fail
      go_roundw
      case rel => exact ⟨k + 1, _, by omega, by go_num, rfl, H3.out.symm, (hb.alloc hb.size _)⟩
      case measure => simp [intOf]; omega
    · have e1 : T = textL l := by rw [HTe.out, List.take_of_length_le (by have := HL.out.len_toks; omega)]
      subst e1
      go_wp2_with fail
      go_ret
      exact ⟨rfl, hb⟩

end Go.Proofs.YtibdcnmaodmghaaGreatDoor
end

section
namespace Go.Proofs.YtibdcnmaodmghaaGreatDoor
open Go.RowKit
set_option maxRecDepth 20000


def Chain (d : Dfa) (s : ByteArray) : Nat → List Tok → Prop
  | i, [] => i = s.size
  | i, t :: l => i < s.size ∧ t = tokAt d s i ∧ Chain d s (i + t.text.size) l
theorem chain_lexFrom (d : Dfa) (s : ByteArray) : ∀ (f i : Nat), s.size - i ≤ f → i ≤ s.size → Chain d s i (lexFrom d s f i)
  | 0, i, h, hi => by simp only [lexFrom, Chain]; omega
  | f + 1, i, h, hi => by
    simp only [lexFrom]
    split
    · rename_i hlt
      have := tokAt_bd d s i hlt
      exact ⟨hlt, rfl, chain_lexFrom d s f _ (by omega) (by omega)⟩
    · simp only [Chain]; omega
theorem chain_lexL (d : Dfa) (s : ByteArray) : Chain d s 0 (lexL d s) := chain_lexFrom d s _ 0 (by omega) (by omega)

/-- The offset behind the first k tokens. -/
def offs (l : List Tok) (k : Nat) : Nat := ((l.take k).map fun t => t.text.size).sum
theorem offs_zero (l : List Tok) : offs l 0 = 0 := by simp [offs]
theorem offs_succ (l : List Tok) (k : Nat) (t : Tok) (h : l[k]? = some t) : offs l (k + 1) = offs l k + t.text.size := by
  simp [offs, take_snoc_tok l k t h]
theorem offs_cons (t : Tok) (l : List Tok) (k : Nat) : offs (t :: l) (k + 1) = t.text.size + offs l k := by simp [offs]
theorem chain_at (d : Dfa) (s : ByteArray) : ∀ (l : List Tok) (i k : Nat) (t : Tok), Chain d s i l → l[k]? = some t → i + offs l k < s.size ∧ t = tokAt d s (i + offs l k)
  | [], i, k, t, _, h => by simp at h
  | x :: l, i, 0, t, hc, h => by
    simp at h
    subst h
    obtain ⟨h1, h2, _⟩ := hc
    rw [offs_zero]
    exact ⟨h1, h2⟩
  | x :: l, i, k + 1, t, hc, h => by
    obtain ⟨_, _, h3⟩ := hc
    have := chain_at d s l _ k t h3 (by simpa using h)
    rw [offs_cons, ← Nat.add_assoc]
    exact this
theorem chain_end (d : Dfa) (s : ByteArray) : ∀ (l : List Tok) (i : Nat), Chain d s i l → i + offs l l.length = s.size
  | [], i, h => by simpa [offs, Chain] using h
  | x :: l, i, h => by
    obtain ⟨_, _, h3⟩ := h
    have := chain_end d s l _ h3
    rw [List.length_cons, offs_cons]
    omega
theorem extract_step (s : ByteArray) (i n : Nat) (_ : i + n ≤ s.size) : s.extract 0 i ++ s.extract i (i + n) = s.extract 0 (i + n) := by
  rw [ByteArray.extract_append_extract]
  congr 1 <;> omega
theorem chain_text (d : Dfa) (s : ByteArray) : ∀ (l : List Tok) (i : Nat), Chain d s i l → textFrom (s.extract 0 i) l = s
  | [], i, h => by
    have h' : i = s.size := h
    subst h'
    simp [textFrom]
  | x :: l, i, h => by
    obtain ⟨h1, h2, h3⟩ := h
    have hb := tokAt_bd d s i h1
    have hs := tokAt_size d s i h1
    have e : x.text = s.extract i (i + x.text.size) := by rw [h2, hs]; rfl
    have := chain_text d s l _ h3
    simp only [textFrom, List.foldl_cons] at *
    rw [e, extract_step s i _ (by rw [h2]; exact hb.2)]
    exact this
theorem textL_lexL (d : Dfa) (s : ByteArray) : textL (lexL d s) = s := by
  have := chain_text d s _ 0 (chain_lexL d s)
  have e : s.extract 0 0 = ByteArray.empty := by simp
  rw [e] at this
  exact this
/-- Every token's text, lookahead and place. -/
theorem scan_look (d : Dfa) (s : ByteArray) (i : Nat) : ∀ (m st look : Nat) (kind : Int) (size : Nat), m = s.size - i - look → i + look ≤ s.size → size ≤ look ∨ size = 1 →
    (scan d s i m st look kind size).2.1 ≤ (scan d s i m st look kind size).2.2 ∧ i + (scan d s i m st look kind size).2.2 ≤ s.size + 1
  | 0, st, look, kind, size, hm, hl, h => by simp only [scan]; omega
  | m + 1, st, look, kind, size, hm, hl, h => by
    simp only [scan]
    split
    · simp only; omega
    · split
      · exact scan_look d s i m _ _ _ _ (by omega) (by omega) (by omega)
      · exact scan_look d s i m _ _ _ _ (by omega) (by omega) (by omega)
theorem tokAt_look (d : Dfa) (s : ByteArray) (i : Nat) (hi : i < s.size) : ((tokAt d s i).text.size : Int) ≤ (tokAt d s i).look ∧ (tokAt d s i).look ≤ (s.size : Int) - i + 1 := by
  have := scan_look d s i (s.size - i) 0 0 (-1) 1 (by omega) (by omega) (by omega)
  rw [tokAt_size d s i hi]
  simp only [tokAt, scan0]
  omega
theorem byteAt_extract (s : ByteArray) (o e j : Nat) (he : e ≤ s.size) (hj : o + j < e) : byteAt (s.extract o e) j = byteAt s (o + j) := by
  have h1 : (s.extract o e).data = s.data.extract o e := by simp
  unfold byteAt
  rw [h1, Array.getElem?_extract]
  have : s.data.size = s.size := rfl
  rw [if_pos (by omega)]
/-- The result depends on the examined bytes alone. -/
theorem scan_agree (d : Dfa) (s s' : ByteArray) (i i' : Nat) : ∀ (m m' st look : Nat) (kind : Int) (size : Nat), m = s.size - i - look → m' = s'.size - i' - look → i + look ≤ s.size →
    i + (scan d s i m st look kind size).2.2 ≤ s.size → i' + (scan d s i m st look kind size).2.2 ≤ s'.size → (∀ j, j < (scan d s i m st look kind size).2.2 → byteAt s' (i' + j) = byteAt s (i + j)) →
    scan d s' i' m' st look kind size = scan d s i m st look kind size
  | 0, m', st, look, kind, size, hm, hm', hl, h1, h2, hb => by simp only [scan] at h1; omega
  | m + 1, 0, st, look, kind, size, hm, hm', hl, h1, h2, hb => by
    have : look + 1 ≤ (scan d s i (m + 1) st look kind size).2.2 := by
      simp only [scan]
      split
      · exact Nat.le_refl _
      · split
        · exact (scan_look2 m _ _ _ _)
        · exact (scan_look2 m _ _ _ _)
    omega
  | m + 1, m' + 1, st, look, kind, size, hm, hm', hl, h1, h2, hb => by
    have hlt : look < (scan d s i (m + 1) st look kind size).2.2 := by
      simp only [scan]
      split
      · exact Nat.lt_succ_self _
      · split
        · exact Nat.lt_of_lt_of_le (Nat.lt_succ_self _) (scan_look2 m _ _ _ _)
        · exact Nat.lt_of_lt_of_le (Nat.lt_succ_self _) (scan_look2 m _ _ _ _)
    have hbe := hb look hlt
    simp only [scan, hbe] at h1 h2 hb ⊢
    split
    · rfl
    · rename_i hx
      rw [if_neg hx] at h1 h2 hb
      split
      · rename_i ha
        rw [if_pos ha] at h1 h2 hb
        exact scan_agree d s s' i i' m m' _ _ _ _ (by omega) (by omega) (by omega) h1 h2 hb
      · rename_i ha
        rw [if_neg ha] at h1 h2 hb
        exact scan_agree d s s' i i' m m' _ _ _ _ (by omega) (by omega) (by omega) h1 h2 hb
where
  scan_look2 {d : Dfa} {s : ByteArray} {i : Nat} : ∀ (m st look : Nat) (kind : Int) (size : Nat), look ≤ (scan d s i m st look kind size).2.2
    | 0, st, look, kind, size => by simp only [scan]; omega
    | m + 1, st, look, kind, size => by
      simp only [scan]
      split
      · exact Nat.le_succ _
      · split
        · exact Nat.le_trans (Nat.le_succ _) (scan_look2 m _ _ _ _)
        · exact Nat.le_trans (Nat.le_succ _) (scan_look2 m _ _ _ _)
/-- .. and of a text that agrees up to its end. -/
theorem scan_shift (d : Dfa) (s s' : ByteArray) (i i' : Nat) : ∀ (m st look : Nat) (kind : Int) (size : Nat), (∀ j, look ≤ j → j < look + m → byteAt s' (i' + j) = byteAt s (i + j)) →
    scan d s' i' m st look kind size = scan d s i m st look kind size
  | 0, _, _, _, _, _ => rfl
  | m + 1, st, look, kind, size, hb => by
    have hbe := hb look (Nat.le_refl _) (by omega)
    simp only [scan, hbe]
    split
    · rfl
    · split
      · exact scan_shift d s s' i i' m _ _ _ _ (fun j h1 h2 => hb j (by omega) (by omega))
      · exact scan_shift d s s' i i' m _ _ _ _ (fun j h1 h2 => hb j (by omega) (by omega))

theorem byteAt_append_left (s t : ByteArray) (j : Nat) (h : j < s.size) : byteAt (s ++ t) j = byteAt s j := by
  have h1 : (s ++ t).data = s.data ++ t.data := by simp
  unfold byteAt
  rw [h1, Array.getElem?_append_left h]
theorem extract_append_left (s t : ByteArray) (i j : Nat) (h : j ≤ s.size) : (s ++ t).extract i j = s.extract i j := by
  apply ByteArray.ext
  have h1 : ((s ++ t).extract i j).data = (s.data ++ t.data).extract i j := by simp
  have h2 : (s.extract i j).data = s.data.extract i j := by simp
  rw [h1, h2, Array.extract_append]
  have : s.data.size = s.size := rfl
  rw [show t.data.extract (i - s.data.size) (j - s.data.size) = #[] by rw [show j - s.data.size = 0 by omega]; simp]
  simp
theorem extract_extract' (s : ByteArray) (a b i j : Nat) (h : a + j ≤ b) : (s.extract a b).extract i j = s.extract (a + i) (a + j) := by
  rw [ByteArray.extract_extract]
  congr 1
  omega

theorem lexFrom_drop (d : Dfa) (s : ByteArray) : ∀ (k i : Nat), k ≤ (lexFrom d s (s.size - i) i).length → (lexFrom d s (s.size - i) i).drop k = lexFrom d s (s.size - (i + offs (lexFrom d s (s.size - i) i) k)) (i + offs (lexFrom d s (s.size - i) i) k)
  | 0, i, _ => by rw [offs_zero]; rfl
  | k + 1, i, h => by
    by_cases hi : i < s.size
    · rw [lexFrom_step d s i hi] at h ⊢
      rw [List.drop_succ_cons, offs_cons, ← Nat.add_assoc]
      exact lexFrom_drop d s k _ (by simpa using h)
    · rw [lexFrom_end d s _ i (by omega)] at h
      simp at h
end Go.Proofs.YtibdcnmaodmghaaGreatDoor
end

section
namespace Go.Proofs.YtibdcnmaodmghaaGreatDoor
open Go.RowKit
set_option maxRecDepth 20000

theorem byteAt_bl (s : ByteArray) (j : Nat) : byteAt s j = (bl s)[j]?.getD 0 := by simp [byteAt, bl]
theorem bl_take_eq {s : ByteArray} {i j n : Nat} (h1 : i + n ≤ s.size) (hj : j < n) : (bl (s.extract i (i + n)))[j]? = some (byteAt s (i + j)) := by
  have hl := bl_length s
  rw [bl_extract, List.getElem?_drop, List.getElem?_take, if_pos (by omega), byteAt_bl, List.getElem?_eq_getElem (by omega)]
  rfl
/-- Pieces with the same bytes are the same. -/
theorem extract_eq {a b : ByteArray} {i i' n : Nat} (h1 : i + n ≤ a.size) (h2 : i' + n ≤ b.size) (hb : ∀ j, j < n → byteAt b (i' + j) = byteAt a (i + j)) : b.extract i' (i' + n) = a.extract i (i + n) := by
  apply bl_inj
  apply List.ext_getElem?
  intro j
  rcases Nat.lt_or_ge j n with h | h
  · rw [bl_take_eq h2 h, bl_take_eq h1 h, hb j h]
  · rw [List.getElem?_eq_none, List.getElem?_eq_none]
    · rw [bl_length, ByteArray.size_extract]; omega
    · rw [bl_length, ByteArray.size_extract]; omega

/-- The edited text ahead of the edit and behind it. -/
theorem byteAt_front {s : ByteArray} {e : Ed} (h : e.ok s.size = true) (j : Nat) (hj : j < e.pos.toNat) : byteAt (apT s e) j = byteAt s j := by
  have hl := bl_length s
  obtain ⟨h1, h2, h3, h4⟩ := Ed.ok_iff.1 h
  rw [byteAt_bl, byteAt_bl, bl_apT h, List.append_assoc, List.getElem?_append_left (by rw [List.length_take]; omega), List.getElem?_take, if_pos hj]
theorem byteAt_back {s : ByteArray} {e : Ed} (h : e.ok s.size = true) (j : Nat) : byteAt (apT s e) (e.pos.toNat + e.ins.size + j) = byteAt s (e.pos.toNat + e.del.toNat + j) := by
  have hl := bl_length s
  have hi := bl_length e.ins
  obtain ⟨h1, h2, h3, h4⟩ := Ed.ok_iff.1 h
  have hz : ((bl s).take e.pos.toNat ++ bl e.ins).length = e.pos.toNat + e.ins.size := by rw [List.length_append, List.length_take]; omega
  rw [byteAt_bl, byteAt_bl, bl_apT h, List.getElem?_append_right (by omega), hz, List.getElem?_drop]
  congr 2
  omega

theorem scan0_look (d : Dfa) (s : ByteArray) (i : Nat) (hi : i < s.size) : (scan0 d s i).2.1 ≤ (scan0 d s i).2.2 :=
  (scan_look d s i (s.size - i) 0 0 (-1) 1 (by omega) (by omega) (by omega)).1
theorem tokAt_front (d : Dfa) (s t : ByteArray) (i P : Nat) (hi : i < s.size) (hs : P ≤ s.size) (ht : P ≤ t.size) (h : i + (scan0 d s i).2.2 ≤ P) (hb : ∀ j, j < P → byteAt t j = byteAt s j) : tokAt d t i = tokAt d s i := by
  have e : scan0 d t i = scan0 d s i := by
    refine scan_agree d s t i i _ _ 0 0 (-1) 1 (by omega) (by omega) (by omega) (Nat.le_trans h hs) (Nat.le_trans h ht) ?_
    intro j hj
    have hj' : j < (scan0 d s i).2.2 := hj
    exact hb _ (by omega)
  have hl := scan0_look d s i hi
  simp only [tokAt, e]
  rw [extract_eq (a := s) (b := t) (i := i) (i' := i) (by omega) (by omega) (fun j hj => hb _ (by omega))]

/-- A token at another place. -/
def Tok.mv (a : Int) (t : Tok) : Tok := ⟨t.kind, t.pos + a, t.text, t.look⟩
theorem tokAt_back (d : Dfa) (s t : ByteArray) (a a' x : Nat) (hz : t.size + a = s.size + a') (hx : a + x < s.size) (hb : ∀ j, a + j < s.size → byteAt t (a' + j) = byteAt s (a + j)) :
    tokAt d t (a' + x) = (tokAt d s (a + x)).mv ((a' : Int) - a) := by
  have e : scan0 d t (a' + x) = scan0 d s (a + x) := by
    unfold scan0
    rw [show t.size - (a' + x) = s.size - (a + x) by omega]
    refine scan_shift d s t (a + x) (a' + x) _ 0 0 (-1) 1 (fun j _ h => ?_)
    rw [Nat.add_assoc, Nat.add_assoc, hb _ (by omega)]
  have hbd := scan0_bd d s (a + x) hx
  simp only [tokAt, Tok.mv, e]
  rw [extract_eq (a := s) (b := t) (i := a + x) (i' := a' + x) (by omega) (by omega) (fun j hj => by rw [Nat.add_assoc, Nat.add_assoc, hb _ (by omega)])]
  simp only [Tok.mk.injEq, true_and, and_true]
  omega
theorem lexFrom_back (d : Dfa) (s t : ByteArray) (a a' : Nat) (hz : t.size + a = s.size + a') (hb : ∀ j, a + j < s.size → byteAt t (a' + j) = byteAt s (a + j)) :
    ∀ (f x : Nat), lexFrom d t f (a' + x) = (lexFrom d s f (a + x)).map (Tok.mv ((a' : Int) - a))
  | 0, _ => rfl
  | f + 1, x => by
    simp only [lexFrom]
    by_cases h : a + x < s.size
    · rw [if_pos (by omega), if_pos h, List.map_cons, tokAt_back d s t a a' x hz h hb]
      have : ((tokAt d s (a + x)).mv ((a' : Int) - a)).text.size = (tokAt d s (a + x)).text.size := rfl
      rw [this, Nat.add_assoc, Nat.add_assoc, lexFrom_back d s t a a' hz hb f _]
    · rw [if_neg (by omega), if_neg h]; rfl

theorem lexL_drop (d : Dfa) (s : ByteArray) (k : Nat) (hk : k ≤ (lexL d s).length) : (lexL d s).drop k = lexFrom d s (s.size - offs (lexL d s) k) (offs (lexL d s) k) := by
  have h1 := lexFrom_drop d s k 0 (by simpa [lexL] using hk)
  simpa [lexL] using h1
theorem lexL_at (d : Dfa) (s : ByteArray) {k : Nat} {t : Tok} (h : (lexL d s)[k]? = some t) : offs (lexL d s) k < s.size ∧ t = tokAt d s (offs (lexL d s) k) := by
  have := chain_at d s _ 0 k t (chain_lexL d s) h
  rwa [Nat.zero_add] at this
theorem lexL_pos (d : Dfa) (s : ByteArray) {k : Nat} {t : Tok} (h : (lexL d s)[k]? = some t) : t.pos = (offs (lexL d s) k : Nat) := by
  rw [(lexL_at d s h).2]; rfl
theorem lexL_end (d : Dfa) (s : ByteArray) : offs (lexL d s) (lexL d s).length = s.size := by
  have := chain_end d s _ 0 (chain_lexL d s)
  rwa [Nat.zero_add] at this
theorem lexL_size (d : Dfa) (s : ByteArray) {k : Nat} {t : Tok} (h : (lexL d s)[k]? = some t) : 1 ≤ t.text.size ∧ offs (lexL d s) k + t.text.size = offs (lexL d s) (k + 1) ∧ offs (lexL d s) (k + 1) ≤ s.size := by
  obtain ⟨h1, h2⟩ := lexL_at d s h
  have := tokAt_bd d s _ h1
  rw [← h2] at this
  rw [offs_succ _ _ _ h]
  omega
theorem lexL_look (d : Dfa) (s : ByteArray) {k : Nat} {t : Tok} (h : (lexL d s)[k]? = some t) : 1 ≤ t.look ∧ t.look ≤ (s.size : Int) - offs (lexL d s) k + 1 ∧ t.look = (scan0 d s (offs (lexL d s) k)).2.2 := by
  obtain ⟨h1, h2⟩ := lexL_at d s h
  have h3 := tokAt_look d s _ h1
  have h4 := tokAt_bd d s _ h1
  rw [← h2] at h3 h4
  refine ⟨by omega, h3.2, ?_⟩
  rw [h2]; rfl
theorem offs_mono (d : Dfa) (s : ByteArray) {i j : Nat} (hj : j ≤ (lexL d s).length) (hij : i < j) : offs (lexL d s) i < offs (lexL d s) j := by
  induction j with
  | zero => omega
  | succ j ih =>
    have := lexL_size d s (List.getElem?_eq_getElem (show j < (lexL d s).length by omega))
    rcases Nat.lt_or_ge i j with h | h
    · have := ih (by omega) h; omega
    · obtain rfl : i = j := by omega
      omega
theorem offs_le (d : Dfa) (s : ByteArray) {k : Nat} (hk : k ≤ (lexL d s).length) : offs (lexL d s) k ≤ s.size := by
  rcases Nat.lt_or_ge k (lexL d s).length with h | h
  · have := offs_mono d s (Nat.le_refl _) h; rw [lexL_end] at this; omega
  · obtain rfl : k = (lexL d s).length := by omega
    rw [lexL_end]; exact Nat.le_refl _
theorem offs_inj (d : Dfa) (s : ByteArray) {i j : Nat} (hi : i ≤ (lexL d s).length) (hj : j ≤ (lexL d s).length) (h : offs (lexL d s) i = offs (lexL d s) j) : i = j := by
  rcases Nat.lt_trichotomy i j with hl | hl | hl
  · have := offs_mono d s hj hl; omega
  · exact hl
  · have := offs_mono d s hi hl; omega
theorem offs_ge (d : Dfa) (s : ByteArray) : ∀ {k : Nat}, k ≤ (lexL d s).length → k ≤ offs (lexL d s) k
  | 0, _ => Nat.zero_le _
  | k + 1, hk => by
    have h1 := offs_ge d s (k := k) (by omega)
    have h2 := offs_mono d s hk (Nat.lt_succ_self k)
    omega
theorem lexL_len (d : Dfa) (s : ByteArray) : (lexL d s).length ≤ s.size := by
  have := offs_ge d s (Nat.le_refl _)
  rwa [lexL_end] at this

/-- The retained tokens at the beginning. -/
def preL (a : Int) : List Tok → Nat
  | [] => 0
  | t :: l => if t.pos + t.look ≤ a then preL a l + 1 else 0
theorem preL_le (a : Int) : ∀ l : List Tok, preL a l ≤ l.length
  | [] => Nat.le_refl _
  | t :: l => by simp only [preL]; have := preL_le a l; split <;> simp <;> omega
theorem preL_in {a : Int} : ∀ {l : List Tok} {i : Nat} {t : Tok}, i < preL a l → l[i]? = some t → t.pos + t.look ≤ a
  | [], i, t, h, _ => by simp [preL] at h
  | x :: l, i, t, h, ht => by
    simp only [preL] at h
    split at h
    · match i with
      | 0 => simp at ht; subst ht; assumption
      | i + 1 => exact preL_in (l := l) (i := i) (by omega) (by simpa using ht)
    · omega
theorem preL_out {a : Int} : ∀ {l : List Tok} {t : Tok}, l[preL a l]? = some t → a < t.pos + t.look
  | [], t, ht => by simp at ht
  | x :: l, t, ht => by
    simp only [preL] at ht
    split at ht
    · exact preL_out (l := l) (by simpa using ht)
    · simp at ht; subst ht; omega
theorem preL_eq {a : Int} {l : List Tok} {n : Nat} (hn : n ≤ l.length) (hi : ∀ (i : Nat) (t : Tok), i < n → l[i]? = some t → t.pos + t.look ≤ a) (ho : ∀ t : Tok, l[n]? = some t → a < t.pos + t.look) : n = preL a l := by
  have hp := preL_le a l
  rcases Nat.lt_trichotomy n (preL a l) with h | h | h
  · have ht := List.getElem?_eq_getElem (show n < l.length by omega)
    have h1 := preL_in h ht
    have h2 := ho _ ht
    omega
  · exact h
  · have ht := List.getElem?_eq_getElem (show preL a l < l.length by omega)
    have h1 := hi _ _ h ht
    have h2 := preL_out ht
    omega

section
variable (d : Dfa) (s : ByteArray) (e : Ed)
/-- The tokens of the prefix are the edited text's too. -/
theorem pre_take (h : e.ok s.size = true) : ∀ i, i ≤ preL e.pos (lexL d s) → i ≤ (lexL d (apT s e)).length ∧ (lexL d (apT s e)).take i = (lexL d s).take i
  | 0, _ => ⟨Nat.zero_le _, rfl⟩
  | i + 1, hi => by
    obtain ⟨hl, he⟩ := pre_take h i (by omega)
    obtain ⟨h1, h2, h3, h4⟩ := Ed.ok_iff.1 h
    have hsz := apT_size_ok h
    have hp := preL_le e.pos (lexL d s)
    have ht := List.getElem?_eq_getElem (show i < (lexL d s).length by omega)
    have hin := preL_in (show i < preL e.pos (lexL d s) by omega) ht
    have hpos := lexL_pos d s ht
    have hlk := lexL_look d s ht
    obtain ⟨hos, hte⟩ := lexL_at d s ht
    have ho : offs (lexL d (apT s e)) i = offs (lexL d s) i := by simp only [offs, he]
    have hil : i < (lexL d (apT s e)).length := by
      rcases Nat.lt_or_ge i (lexL d (apT s e)).length with hlt | hge
      · exact hlt
      · exfalso
        have hi2 : i = (lexL d (apT s e)).length := by omega
        have := lexL_end d (apT s e)
        rw [← hi2, ho] at this
        omega
    have hu := List.getElem?_eq_getElem hil
    obtain ⟨hot, hue⟩ := lexL_at d (apT s e) hu
    rw [ho] at hue
    have hfr := tokAt_front d s (apT s e) (offs (lexL d s) i) e.pos.toNat hos (by omega) (by omega) (by omega) (fun j hj => byteAt_front h j hj)
    refine ⟨hil, ?_⟩
    rw [take_snoc_tok _ _ _ hu, take_snoc_tok _ _ _ ht, he, hue, hfr, ← hte]
theorem pre_at (h : e.ok s.size = true) {i : Nat} (hi : i < preL e.pos (lexL d s)) : (lexL d (apT s e))[i]? = (lexL d s)[i]? := by
  have := congrArg (fun l => l[i]?) (pre_take d s e h (i + 1) (by omega)).2
  simpa using this
/-- Token m of the edited text and token k of the old one begin at the same place behind the edit. -/
structure Meet (m k : Nat) : Prop where
  fm : preL e.pos (lexL d s) ≤ m
  ml : m ≤ (lexL d (apT s e)).length
  kl : k ≤ (lexL d s).length
  q : e.pos.toNat + e.ins.size ≤ offs (lexL d (apT s e)) m
  eq : offs (lexL d s) k + e.ins.size = offs (lexL d (apT s e)) m + e.del.toNat
structure First (m k : Nat) : Prop where
  meet : Meet d s e m k
  least : ∀ m' k', Meet d s e m' k' → m ≤ m'
variable {d s e}
theorem Meet.inj {m k k' : Nat} (h : Meet d s e m k) (h' : Meet d s e m k') : k = k' := offs_inj d s h.kl h'.kl (by have := h.eq; have := h'.eq; omega)
theorem First.uniq {m k m' k' : Nat} (h : First d s e m k) (h' : First d s e m' k') : m = m' ∧ k = k' := by
  have h1 := h.least _ _ h'.meet
  have h2 := h'.least _ _ h.meet
  obtain rfl : m = m' := by omega
  exact ⟨rfl, h.meet.inj h'.meet⟩
theorem Meet.last (h : e.ok s.size = true) : Meet d s e (lexL d (apT s e)).length (lexL d s).length := by
  obtain ⟨h1, h2, h3, h4⟩ := Ed.ok_iff.1 h
  have hsz := apT_size_ok h
  refine ⟨(pre_take d s e h _ (Nat.le_refl _)).1, Nat.le_refl _, Nat.le_refl _, ?_, ?_⟩
  · rw [lexL_end]; omega
  · rw [lexL_end, lexL_end]; omega
theorem Meet.fk (h : e.ok s.size = true) {m k : Nat} (hm : Meet d s e m k) : preL e.pos (lexL d s) ≤ k := by
  obtain ⟨h1, h2, h3, h4⟩ := Ed.ok_iff.1 h
  rcases Nat.lt_or_ge k (preL e.pos (lexL d s)) with hk | hk
  · exfalso
    have ht := List.getElem?_eq_getElem (show k < (lexL d s).length by have := preL_le e.pos (lexL d s); omega)
    have a1 := preL_in hk ht
    have a2 := lexL_pos d s ht
    have a3 := lexL_look d s ht
    have := hm.q
    have := hm.eq
    omega
  · exact hk
/-- Behind such a place the tokens are the old ones, shifted. -/
theorem Meet.rest (h : e.ok s.size = true) {m k : Nat} (hm : Meet d s e m k) : (lexL d (apT s e)).drop m = ((lexL d s).drop k).map (Tok.mv ((e.ins.size : Int) - e.del)) := by
  obtain ⟨h1, h2, h3, h4⟩ := Ed.ok_iff.1 h
  have hsz := apT_size_ok h
  have hq := hm.q
  have he := hm.eq
  have ho := offs_le d s hm.kl
  obtain ⟨x, hx⟩ : ∃ x, offs (lexL d (apT s e)) m = e.pos.toNat + e.ins.size + x := ⟨_, (Nat.add_sub_cancel' hq).symm⟩
  have hy : offs (lexL d s) k = e.pos.toNat + e.del.toNat + x := by omega
  rw [lexL_drop d _ m hm.ml, lexL_drop d s k hm.kl, hx, hy]
  rw [lexFrom_back d s (apT s e) (e.pos.toNat + e.del.toNat) (e.pos.toNat + e.ins.size) (by omega) (fun j _ => byteAt_back h j)]
  rw [show (((e.pos.toNat + e.ins.size : Nat) : Int) - ((e.pos.toNat + e.del.toNat : Nat) : Int)) = (e.ins.size : Int) - e.del by omega]
  congr 1
  exact lexFrom_fuel d s _ _ _ (by omega) (Nat.le_refl _)
theorem Meet.len (h : e.ok s.size = true) {m k : Nat} (hm : Meet d s e m k) : (lexL d (apT s e)).length + k = (lexL d s).length + m := by
  have := congrArg List.length (hm.rest h)
  simp only [List.length_drop, List.length_map] at this
  have := hm.ml
  have := hm.kl
  omega
theorem Meet.tok (h : e.ok s.size = true) {m k : Nat} (hm : Meet d s e m k) {j : Nat} {t : Tok} (ht : (lexL d s)[k + j]? = some t) : (lexL d (apT s e))[m + j]? = some (t.mv ((e.ins.size : Int) - e.del)) := by
  have := congrArg (fun l => l[j]?) (hm.rest h)
  simp only [List.getElem?_drop, List.getElem?_map, ht, Option.map_some] at this
  exact this

/-- What the program's search for the suffix has passed. -/
def Passed (d : Dfa) (s : ByteArray) (e : Ed) (m k : Nat) : Prop := offs (lexL d s) k < e.pos.toNat + e.del.toNat ∨ offs (lexL d s) k + e.ins.size < offs (lexL d (apT s e)) m + e.del.toNat
theorem passed_pre (h : e.ok s.size = true) {m k : Nat} (hk : k < preL e.pos (lexL d s)) : Passed d s e m k := by
  obtain ⟨h1, h2, h3, h4⟩ := Ed.ok_iff.1 h
  have ht := List.getElem?_eq_getElem (show k < (lexL d s).length by have := preL_le e.pos (lexL d s); omega)
  have a1 := preL_in hk ht
  have a2 := lexL_pos d s ht
  have a3 := lexL_look d s ht
  left
  omega
theorem Passed.next {m m' k : Nat} (hm : m ≤ m') (hl : m' ≤ (lexL d (apT s e)).length) (h : Passed d s e m k) : Passed d s e m' k := by
  rcases h with h | h
  · exact Or.inl h
  · right
    rcases Nat.lt_or_ge m m' with hlt | hge
    · have := offs_mono d (apT s e) hl hlt; omega
    · obtain rfl : m = m' := by omega
      exact h
/-- If the first token that is not passed does not begin at the place, no token does. -/
theorem no_meet (_ : e.ok s.size = true) {m k : Nat} (hk : k ≤ (lexL d s).length) (hp : ∀ j, j < k → Passed d s e m j) (hn : k < (lexL d s).length → ¬ Passed d s e m k)
    (hno : ¬ (e.pos.toNat + e.ins.size ≤ offs (lexL d (apT s e)) m ∧ offs (lexL d s) k + e.ins.size = offs (lexL d (apT s e)) m + e.del.toNat)) : ∀ k', ¬ Meet d s e m k' := by
  intro k' hm
  have hq := hm.q
  have he := hm.eq
  have hkl := hm.kl
  rcases Nat.lt_trichotomy k k' with hlt | heq | hgt
  · have h1 := hn (by omega)
    have h2 := offs_mono d s hm.kl hlt
    exact h1 (Or.inr (by omega))
  · subst heq
    exact hno ⟨hq, he⟩
  · rcases hp k' hgt with h1 | h1 <;> omega
theorem no_meet_lt (h : e.ok s.size = true) {m : Nat} (hm : m ≤ (lexL d (apT s e)).length) (hno : ∀ k', ¬ Meet d s e m k') : m < (lexL d (apT s e)).length := by
  rcases Nat.lt_or_ge m (lexL d (apT s e)).length with hlt | hge
  · exact hlt
  · obtain rfl : m = (lexL d (apT s e)).length := by omega
    exact absurd (Meet.last h) (hno _)

theorem passed_iff {P D m k : Nat} {t : ByteArray} : Passed d s ⟨P, D, t⟩ m k ↔ offs (lexL d s) k < P + D ∨ offs (lexL d s) k + t.size < offs (lexL d (apT s ⟨P, D, t⟩)) m + D := by simp [Passed]

/-- Where the program's search stands: m tokens of the edited text, which end at om; k old ones passed. -/
structure Stand (d : Dfa) (s : ByteArray) (e : Ed) (om m k : Nat) : Prop where
  ok : e.ok s.size = true
  om : om = offs (lexL d (apT s e)) m
  fm : preL e.pos (lexL d s) ≤ m
  ml : m ≤ (lexL d (apT s e)).length
  kl : k ≤ (lexL d s).length
  pass : ∀ j, j < k → Passed d s e m j
  none : ∀ m' k', m' < m → ¬ Meet d s e m' k'
theorem Stand.start (h : e.ok s.size = true) : Stand d s e (offs (lexL d s) (preL e.pos (lexL d s))) (preL e.pos (lexL d s)) (preL e.pos (lexL d s)) := by
  obtain ⟨h1, h2⟩ := pre_take d s e h _ (Nat.le_refl _)
  refine ⟨h, ?_, Nat.le_refl _, h1, preL_le _ _, fun j hj => passed_pre h hj, fun m' k' hm hmeet => ?_⟩
  · simp only [offs, h2]
  · have := hmeet.fm; omega
theorem Stand.skip {om m k : Nat} (h : Stand d s e om m k) (hk : k < (lexL d s).length) (hp : Passed d s e m k) : Stand d s e om m (k + 1) := by
  refine ⟨h.ok, h.om, h.fm, h.ml, hk, fun j hj => ?_, h.none⟩
  rcases Nat.lt_or_ge j k with h1 | h1
  · exact h.pass j h1
  · obtain rfl : j = k := by omega
    exact hp
theorem Stand.first {om m k : Nat} (h : Stand d s e om m k) (hq : e.pos.toNat + e.ins.size ≤ om) (he : offs (lexL d s) k + e.ins.size = om + e.del.toNat) : First d s e m k := by
  have hom := h.om
  refine ⟨⟨h.fm, h.ml, h.kl, by omega, by omega⟩, fun m' k' hm => ?_⟩
  rcases Nat.lt_or_ge m' m with h1 | h1
  · exact absurd hm (h.none m' k' h1)
  · exact h1
theorem Stand.next {om m k : Nat} (h : Stand d s e om m k) (hn : k < (lexL d s).length → ¬ Passed d s e m k) (hno : ¬ (e.pos.toNat + e.ins.size ≤ om ∧ offs (lexL d s) k + e.ins.size = om + e.del.toNat)) :
    om < (apT s e).size ∧ (lexL d (apT s e))[m]? = some (tokAt d (apT s e) om) ∧ Stand d s e (om + (tokAt d (apT s e) om).text.size) (m + 1) k := by
  have hom := h.om
  rw [hom] at hno
  have h1 := no_meet h.ok h.kl h.pass hn hno
  have h2 := no_meet_lt h.ok h.ml h1
  have ht := List.getElem?_eq_getElem h2
  obtain ⟨h3, h4⟩ := lexL_at d (apT s e) ht
  have h5 := lexL_size d (apT s e) ht
  rw [← hom] at h3 h4 h5
  rw [h4] at ht h5
  refine ⟨h3, ht, h.ok, by omega, by have := h.fm; omega, h2, h.kl, fun j hj => (h.pass j hj).next (Nat.le_succ m) h2, fun m' k' hm => ?_⟩
  rcases Nat.lt_or_ge m' m with h6 | h6
  · exact h.none m' k' h6
  · obtain rfl : m' = m := by omega
    exact h1 k'
end
end Go.Proofs.YtibdcnmaodmghaaGreatDoor
end

section
namespace Go.Proofs.YtibdcnmaodmghaaGreatDoor
open Go.RowKit
set_option maxRecDepth 20000

set_option maxHeartbeats 1000000 in
theorem prefix_any (A : Option Addr) (n c B : Nat) (d : Dfa) (s : ByteArray) (x : Int) (w : World) (hl : Reads w B 4 A n (toks (lexL d s))) (hn : n ≤ maxLen) (hs : s.size ≤ 1048576) :
    Calls Tryz.prog 40 #[.slice A n c, .int .i64 x] w fun e w' => e = .returned (.int .i64 (preL x (lexL d s) : Nat)) ∧ ∃ nd, w' = w.drewN nd := by
  unfold maxLen at hn
  have HL := Lib.hid hl
  have hln := hl.len_toks
  clear hl
  go_enter Tryz.func40, Tryz.ntmps40
  go_wp2_with fail
  go_loopw [5] (fun a wr => ∃ i : Nat, i ≤ n ∧ a = .int .i64 i ∧ (∃ nd, wr = w.drewN nd) ∧ Hid (∀ (j : Nat) (t : Tok), j < i → (lexL d s)[j]? = some t → t.pos + t.look ≤ x)) (fun a _ => n - (intOf a).toNat)
  case atStart => exact ⟨0, by omega, rfl, ⟨0, rfl⟩, fun j t hj => absurd hj (by omega)⟩
  case round =>
    obtain ⟨i, hi, rfl, ⟨nd, rfl⟩, HJ⟩ := hrel
    by_cases hlt : i < n
    · have hltI : (i : Int) < (n : Int) := by omega
      have hltD : decide (i < n) = true := by simp [hlt]
      obtain ⟨b, off, y, rfl, _, hy, h0, h1, h2, h3⟩ := HL.out.tok_at hlt
      have hyp := lexL_pos d s hy
      have hyl := lexL_look d s hy
      have hya := (lexL_at d s hy).1
      generalize offs (lexL d s) i = o at hyp hyl hya
      have HY := Lib.hid hy
      obtain ⟨yk, yp, yt, yl⟩ := y
      simp only at hyp hyl h0 h1 h2 h3
      subst hyp
      have w1 : IntKind.i64.wrap ((o : Int) + yl) = (o : Int) + yl := IntWalk.i64_in _ (by omega)
      clear hy hyl
      by_cases hcond : (o : Int) + yl ≤ x
      · have hcD : decide ((o : Int) + yl ≤ x) = true := by simp [hcond]
        go_wp2_with fail
        go_quiet (fail)
        go_wp2_with fail
        go_roundw
        case rel =>
          refine ⟨i + 1, by omega, by go_num, by (try simp only [World.drewN_drewN]); exact drew1 _ _, fun j t hj ht => ?_⟩
          rcases Nat.lt_or_ge j i with h | h
          · exact HJ.out j t h ht
          · obtain rfl : j = i := by omega
            have e1 := ht.symm.trans HY.out
            injection e1 with e1
            subst e1
            exact hcond
        case measure => simp [intOf]; omega
      · have hcD : decide ((o : Int) + yl ≤ x) = false := by simp; omega
        have he := preL_eq (a := x) (n := i) (by omega) HJ.out (fun t ht => by
          have e1 := ht.symm.trans HY.out
          injection e1 with e1
          subst e1
          simp only
          omega)
        subst he
        go_wp2_with fail
        go_quiet (fail)
        go_wp2_with fail
        go_ret
        exact ⟨rfl, by (try simp only [World.drewN_drewN]); exact drew1 _ _⟩
    · have hltI : ¬ (i : Int) < (n : Int) := by omega
      have hltD : decide (i < n) = false := by simp [hlt]
      have he := preL_eq (a := x) (n := i) (by omega) HJ.out (fun t ht => by
        rw [List.getElem?_eq_none (by omega)] at ht
        injection ht)
      subst he
      go_wp2_with fail
      go_quiet (fail)
      go_wp2_with fail
      go_ret
      exact ⟨rfl, by (try simp only [World.drewN_drewN]); exact drew1 _ _⟩

set_option maxHeartbeats 400000 in
theorem end_any (k p l : Int) (t : ByteArray) (w : World) (hp : 0 ≤ p ∧ p ≤ 1048576) (ht : t.size ≤ 1048576) :
    Calls Tryz.prog 42 #[.agg #[.int .i64 k, .int .i64 p, .string t, .int .i64 l]] w fun e w' => e = .returned (.int .i64 (p + t.size)) ∧ Below w.heap.size w w' := by
  go_enter Tryz.func42, Tryz.ntmps42
  go_wp2_with fail
  go_ret
  exact ⟨rfl, (Below.refl _ _).alloc (Nat.le_refl _) _⟩

set_option maxHeartbeats 400000 in
theorem start_any (A : Option Addr) (n c B i : Nat) (d : Dfa) (s : ByteArray) (w : World) (hl : Reads w B 4 A n (toks (lexL d s))) (hn : n ≤ maxLen) (hs : s.size ≤ 1048576) (hi : i ≤ n) :
    Calls Tryz.prog 41 #[.slice A n c, .int .i64 i] w fun e w' => e = .returned (.int .i64 (offs (lexL d s) i : Nat)) ∧ Below w.heap.size w w' := by
  unfold maxLen at hn
  have hln := hl.len_toks
  by_cases hlt : i < n
  · obtain ⟨b, off, y, rfl, _, hy, h0, h1, h2, h3⟩ := hl.tok_at hlt
    have hyp := lexL_pos d s hy
    have hltD : decide (i < n) = true := by simp [hlt]
    generalize offs (lexL d s) i = o at hyp
    obtain ⟨yk, yp, yt, yl⟩ := y
    simp only at hyp h0 h1 h2 h3
    subst hyp
    clear hy hl
    go_enter Tryz.func41, Tryz.ntmps41
    go_wp2_with fail
    go_ret
    exact ⟨rfl, Below.refl _ _⟩
  · have hltD : decide (i < n) = false := by simp [hlt]
    obtain rfl : i = n := by omega
    by_cases h0 : i = 0
    · subst h0
      rw [offs_zero]
      clear hl
      go_enter Tryz.func41, Tryz.ntmps41
      go_wp2_with fail
      go_ret
      exact ⟨rfl, Below.refl _ _⟩
    · have h0D : ((i : Int) == 0) = false := by rw [beq_eq_false_iff_ne]; omega
      obtain ⟨m, rfl⟩ : ∃ m, i = m + 1 := ⟨i - 1, by omega⟩
      obtain ⟨b, off, y, rfl, _, hy, k0, k1, k2, k3⟩ := hl.tok_at (k := m) (by omega)
      have hyp := lexL_pos d s hy
      have hys := lexL_size d s hy
      have HO : Hid ((offs (lexL d s) (m + 1) : Int) = (offs (lexL d s) m : Int) + (y.text.size : Int)) := by show _ = _; omega
      generalize offs (lexL d s) m = o at hyp hys HO
      obtain ⟨yk, yp, yt, yl⟩ := y
      simp only at hyp hys k0 k1 k2 k3 HO
      subst hyp
      have w1 : IntKind.i64.wrap (((m + 1 : Nat) : Int) - 1) = (m : Int) := by rw [IntWalk.i64_in _ (by omega)]; omega
      have w2 : (0 : Int) ≤ (m : Int) := by omega
      have w3 : (m : Int) < ((m + 1 : Nat) : Int) := by omega
      clear hy hl h0
      go_enter Tryz.func41, Tryz.ntmps41
      go_wp2_with (go_at_call 42; refine (end_any yk o yl yt _ (by omega) (by omega)).mono ?_; rintro e w1 ⟨rfl, hb1⟩)
      go_ret
      exact ⟨ret_int HO.out.symm, hb1⟩

/-- What the reference's start finds: the token that begins at an offset, the number of tokens for the end, or -1. -/
def FindAt (l : List Tok) (x : Int) (r : Int) : Prop := (∃ k : Nat, r = k ∧ k ≤ l.length ∧ (offs l k : Int) = x) ∨ (r = -1 ∧ ∀ k : Nat, k ≤ l.length → (offs l k : Int) ≠ x)
end Go.Proofs.YtibdcnmaodmghaaGreatDoor
end

section
namespace Go.Proofs.YtibdcnmaodmghaaGreatDoor
open Go.RowKit
set_option maxRecDepth 20000

section
variable {P : Program} (w : World)

theorem run_append_of_nil (base : Nat) (t ty e : TypeId) (i : TypeInfo) (size : Nat) (ht : P.underlying t = some (.slice e)) (hi : P.info? e = some i)
    (v : Value) (n : Nat) (xs : List Value) (hown : w.ownsRow base e size v n xs) (c : Nat) : (Builtin.append_ #[t, t] ty #[v, .slice none 0 c]).run P w = .ok v w := by
  rcases hown.2 with ⟨rfl, rfl⟩ | ⟨g, cap, cur, rfl, _, _, hnc, _⟩
  · simp [Builtin.append_, run_underlying ht, sizeOf, typeInfo, hi, Builtin.lenOf, Builtin.firstCells]
  · simp [Builtin.append_, run_underlying ht, sizeOf, typeInfo, hi, Builtin.lenOf, Builtin.firstCells, hnc, storeCells]

theorem run_append_any (base : Nat) (t ty e : TypeId) (i : TypeInfo) (z : Value) (size bytes : Nat) (ht : P.underlying t = some (.slice e)) (hi : P.info? e = some i) (hz : i.zero = some z)
    (hsize : i.size = size) (hby : i.bytes = bytes) (hzs : z.cells.size = size) (hsz : 0 < size)
    (v : Value) (n : Nat) (xs : List Value) (hown : w.ownsRow base e size v n xs)
    (B : Nat) (A : Option Addr) (m c : Nat) (news : List Value) (hr : Reads w B size A m news) (h1 : ∀ u ∈ news, u.oneCell' = true)
    (h63 : n + m ≤ maxLen) (hbytes : (n + m) * bytes ≤ 140737488355328) (hbase : base ≤ w.heap.size) :
    ∃ v' w', (Builtin.append_ #[t, t] ty #[v, .slice A m c]).run P w = .ok v' w' ∧ w'.ownsRow base e size v' (n + m) (xs ++ news) ∧ w.grownBy w' v.ownBlock ∧
      (v'.ownBlock = v.ownBlock ∨ v'.ownBlock = some w.heap.size) := by
  rcases A with _ | ad
  · have hm : m = 0 := by
      rcases Nat.eq_zero_or_pos m with h0 | h0
      · exact h0
      · obtain ⟨b, off, h, _⟩ := hr.2 h0
        cases h
    subst hm
    have hn : news = [] := List.eq_nil_of_length_eq_zero (by simpa using hr.1)
    subst hn
    exact ⟨v, w, run_append_of_nil w base t ty e i size ht hi v n xs hown c, by simpa using hown, World.grownBy.refl w _, .inl rfl⟩
  · have hcells : ∀ j u, news[j]? = some u → w.cell? (ad.add j) = some u := by
      intro j u hu
      rcases Nat.eq_zero_or_pos m with h0 | h0
      · subst h0
        have hn : news = [] := List.eq_nil_of_length_eq_zero (by simpa using hr.1)
        subst hn
        simp at hu
      · obtain ⟨b, off, h, _, hc⟩ := hr.2 h0
        injection h with h
        subst h
        rw [Addr.add_lit]
        exact hc j u hu
    obtain ⟨v', w', hrun, h2, h3, _, h5⟩ := run_append_own_at (P := P) w base t ty e i z size bytes ht hi hz hsize hby hzs hsz v n xs hown ad m c news hr.1 hcells h1 h63 hbytes hbase
    exact ⟨v', w', hrun, h2, h3, h5⟩

theorem wp_append_any {o : Oper} {a : Act} {K : Act → World → Prop} {Q : Exit → Act → World → Prop} (s x : Operand) (t : TypeId)
    (ho : o.op = .call { callee := .builtin .append, args := #[s, x], argTypes := #[t, t] })
    (base : Nat) (e : TypeId) (i : TypeInfo) (z : Value) (size bytes : Nat) (ht : P.underlying t = some (.slice e)) (hi : P.info? e = some i) (hz : i.zero = some z)
    (hsize : i.size = size) (hby : i.bytes = bytes) (hzs : z.cells.size = size) (hsz : 0 < size)
    (v : Value) (n : Nat) (xs : List Value) (hs : a.eval s = v) (hown : w.ownsRow base e size v n xs)
    (B : Nat) (A : Option Addr) (m c : Nat) (news : List Value) (hx : a.eval x = .slice A m c) (hr : Reads w B size A m news) (h1 : ∀ u ∈ news, u.oneCell' = true)
    (h63 : n + m ≤ maxLen) (hbytes : (n + m) * bytes ≤ 140737488355328) (hbase : base ≤ w.heap.size)
    (h : ∀ v' w', w'.ownsRow base e size v' (n + m) (xs ++ news) → w.grownBy w' v.ownBlock → (v'.ownBlock = v.ownBlock ∨ v'.ownBlock = some w.heap.size) → K (a.put o.dst v') w') : o.wp P a w K Q := by
  obtain ⟨v', w', hrun, h2, h3, h4⟩ := run_append_any (P := P) w base t o.type e i z size bytes ht hi hz hsize hby hzs hsz v n xs hown B A m c news hr h1 h63 hbytes hbase
  unfold Oper.wp execOp
  simp only [ho, resolve, invoke, builtin, Sem.run_bind, Sem.run_pure, Result.andThen_ok, List.map_toArray, List.map_cons, List.map_nil, hs, hx, hrun]
  exact h v' w' h2 h3 h4

theorem step_append_any {ops : Array Oper} {o : Oper} {a : Act} {K : Act → World → Prop} {Q : Exit → Act → World → Prop} {E : Prop} (hgd : o.guard = none) (s x : Operand) (t : TypeId)
    (ho : o.op = .call { callee := .builtin .append, args := #[s, x], argTypes := #[t, t] })
    (base : Nat) (e : TypeId) (i : TypeInfo) (z : Value) (size bytes : Nat) (ht : P.underlying t = some (.slice e)) (hi : P.info? e = some i) (hz : i.zero = some z)
    (hsize : i.size = size) (hby : i.bytes = bytes) (hzs : z.cells.size = size) (hsz : 0 < size)
    (v : Value) (n : Nat) (xs : List Value) (hs : a.eval s = v) (hown : w.ownsRow base e size v n xs)
    (B : Nat) (A : Option Addr) (m c : Nat) (news : List Value) (hx : a.eval x = .slice A m c) (hr : Reads w B size A m news) (h1 : ∀ u ∈ news, u.oneCell' = true)
    (h63 : n + m ≤ maxLen) (hbytes : (n + m) * bytes ≤ 140737488355328) (hbase : base ≤ w.heap.size)
    (h : ∀ v' w', w'.ownsRow base e size v' (n + m) (xs ++ news) → w.grownBy w' v.ownBlock → (v'.ownBlock = v.ownBlock ∨ v'.ownBlock = some w.heap.size) → K (a.put o.dst v') w') :
    if Region.wanted o (yielded ops a.tmps) = true then Oper.wp P o a w K Q else E := by
  have hw : Region.wanted o (yielded ops a.tmps) = true := by simp [Region.wanted, hgd]
  rw [if_pos hw]
  exact wp_append_any w s x t ho base e i z size bytes ht hi hz hsize hby hzs hsz v n xs hs hown B A m c news hx hr h1 h63 hbytes hbase h
end
end Go.Proofs.YtibdcnmaodmghaaGreatDoor
end

section
namespace Go.Proofs.YtibdcnmaodmghaaGreatDoor
open Go.RowKit
set_option maxRecDepth 20000

theorem results_upd {fn : Func} {p q r : Tmp} (h : fn.results = #[.tmp q, .cell p 50, .tmp r]) {tmps : Array Value} {b : Nat} (hp : tmps.getD p undef = .pointer (some ⟨b, 0, none⟩)) {w : World} {v x : Value}
    {i j k : Int} (h0 : w.cell? ⟨b, 0, none⟩ = some (.int .i64 i)) (h1 : w.cell? ⟨b, 1, none⟩ = some (.int .i64 j)) (h2 : w.cell? ⟨b, 2, none⟩ = some (.int .i64 k)) (hv : tmps.getD q undef = v) (hx : tmps.getD r undef = x) :
    (results fn tmps).run Tryz.prog w = .ok (.tuple #[v, .agg #[.int .i64 i, .int .i64 j, .int .i64 k], x]) w := by
  have hp' : tmps[p]?.getD undef = .pointer (some ⟨b, 0, none⟩) := by rw [← hp]; simp
  have hv' : tmps[q]?.getD undef = v := by rw [← hv]; simp
  have hx' : tmps[r]?.getD undef = x := by rw [← hx]; simp
  simp only [results, h]
  simp [go_sem, asAddr, hp', hv', hx', h0, h1, h2]

theorem Reads.front {w : World} {B n f : Nat} {A : Option Addr} {l : List Tok} (h : Reads w B 4 A n (toks l)) (hf : f ≤ n) : Reads w B 4 A f (toks (l.take f)) := by
  have hl := h.len_toks
  refine ⟨by rw [toks_length, List.length_take]; omega, fun h0 => ?_⟩
  obtain ⟨b, off, e, hb, hc⟩ := h.2 (by omega)
  refine ⟨b, off, e, hb, fun j u hu => hc j u ?_⟩
  have e1 : toks l = toks (l.take f) ++ toks (l.drop f) := by rw [← toks_append, List.take_append_drop]
  rw [e1, List.getElem?_append_left (List.getElem?_eq_some_iff.1 hu).1]
  exact hu
theorem Reads.back {w : World} {B n c k : Nat} {A : Option Addr} {l : List Tok} (h : Reads w B 4 A n (toks l)) (hk : k ≤ n) (hc : n ≤ c) : Reads w B 4 (if c = k then A else A.map (·.add (k * 4))) (n - k) (toks (l.drop k)) := by
  have hl := h.len_toks
  refine ⟨by rw [toks_length, List.length_drop]; omega, fun h0 => ?_⟩
  obtain ⟨b, off, e, hb, hcl⟩ := h.2 (by omega)
  rw [if_neg (by omega), e]
  refine ⟨b, off + k * 4, by simp [Addr.add], hb, fun j u hu => ?_⟩
  have e1 : toks l = toks (l.take k) ++ toks (l.drop k) := by rw [← toks_append, List.take_append_drop]
  have e2 : (toks (l.take k)).length = k * 4 := by rw [toks_length, List.length_take]; omega
  rw [Nat.add_assoc]
  refine hcl (k * 4 + j) u ?_
  rw [e1, List.getElem?_append_right (by omega), e2, Nat.add_sub_cancel_left]
  exact hu
theorem toks_one {l : List Tok} {u : Value} (h : u ∈ toks l) : u.oneCell' = true := by
  simp only [toks, List.mem_flatMap] at h
  obtain ⟨t, _, h⟩ := h
  simp [Tok.cells] at h
  rcases h with rfl | rfl | rfl | rfl <;> rfl

theorem DfaAt.grown {w w' : World} {B : Nat} {v : DfaV} {d : Dfa} {row : Option Nat} (h : DfaAt w B v d) (hg : w.grownBy w' row) (hB : B ≤ w.heap.size) (hr : ∀ g, row = some g → B ≤ g) : DfaAt w' B v d :=
  h.keep fun p hp => World.cell?_of_block (hg.block p.block (by omega) (fun e => by have := hr _ e.symm; omega))
theorem push_toks {l : List Tok} {m : Nat} {t : Tok} (h : l[m]? = some t) : toks (l.take (m + 1)) = toks (l.take m) ++ t.cells := by
  rw [take_snoc_tok l m t h, toks_append]; simp [toks]
theorem own_blk_ne {w : World} {g : Nat} {t : TypeId} {cs : Array Value} {base : Nat} {e : TypeId} {size n : Nat} {v : Value} {xs : List Value} (h : w.ownsRow base e size v n xs) (hg : Blk w g t cs) (hne : e ≠ t) : v.ownBlock ≠ some g := by
  rcases h.2 with ⟨rfl, _⟩ | ⟨g', cap, cur, rfl, _, hh, _⟩
  · simp [Value.ownBlock]
  · intro he
    have : g' = g := by simpa [Value.ownBlock] using he
    subst this
    exact Blk.ne_ (t := e) hh hg hne rfl
theorem own_set {w : World} {base : Nat} {e : TypeId} {size n : Nat} {v : Value} {xs : List Value} (h : w.ownsRow base e size v n xs) {p : Addr} (hp : p.block < base) (u : Value) : (w.setCell p u).ownsRow base e size v n xs :=
  h.kept (row := some p.block) ⟨rfl, rfl, rfl, by simp, fun j hj hne => Below.heap_setCell _ _ _ _ (fun e => hne (by simp [e]))⟩ (by
    cases hv : v.ownBlock with
    | none => simp
    | some g =>
      have := (h.lt g hv).1
      simp
      omega)
theorem own_drew {w : World} {base : Nat} {e : TypeId} {size n : Nat} {v : Value} {xs : List Value} (h : w.ownsRow base e size v n xs) : w.drew.ownsRow base e size v n xs := h
theorem blk_drew {w : World} {g : Nat} {t : TypeId} {cs : Array Value} (h : Blk w g t cs) : Blk w.drew g t cs := h
theorem own_drewN {w : World} {base : Nat} {e : TypeId} {size n : Nat} {v : Value} {xs : List Value} (h : w.ownsRow base e size v n xs) (k : Nat) : (w.drewN k).ownsRow base e size v n xs := h
section
variable {P : Program} {w : World}
theorem wpList_append_any {ops : Array Oper} {rest : List Oper} {o : Oper} {a : Act} {Q : Exit → Act → World → Prop} (hgd : o.guard = none) (s x : Operand) (t : TypeId)
    (ho : o.op = .call { callee := .builtin .append, args := #[s, x], argTypes := #[t, t] })
    (base : Nat) (e : TypeId) (i : TypeInfo) (z : Value) (size bytes : Nat) (ht : P.underlying t = some (.slice e)) (hi : P.info? e = some i) (hz : i.zero = some z)
    (hsize : i.size = size) (hby : i.bytes = bytes) (hzs : z.cells.size = size) (hsz : 0 < size)
    (v : Value) (n : Nat) (xs : List Value) (hs : a.eval s = v) (hown : w.ownsRow base e size v n xs)
    (B : Nat) (A : Option Addr) (m c : Nat) (news : List Value) (hx : a.eval x = .slice A m c) (hr : Reads w B size A m news) (h1 : ∀ u ∈ news, u.oneCell' = true)
    (h63 : n + m ≤ maxLen) (hbytes : (n + m) * bytes ≤ 140737488355328) (hbase : base ≤ w.heap.size)
    (h : ∀ v' w', w'.ownsRow base e size v' (n + m) (xs ++ news) → w.grownBy w' v.ownBlock → (v'.ownBlock = v.ownBlock ∨ v'.ownBlock = some w.heap.size) → wpList P ops Q rest (a.put o.dst v') w') : wpList P ops Q (o :: rest) a w :=
  wpList_plain hgd fun _ hK => wp_append_any w s x t ho base e i z size bytes ht hi hz hsize hby hzs hsz v n xs hs hown B A m c news hx hr h1 h63 hbytes hbase fun v' w' h2 h3 h4 => hK _ _ (h v' w' h2 h3 h4)
end

set_option maxHeartbeats 400000 in
theorem scanner_any (v : DfaV) (s : ByteArray) (w : World) :
    Calls Tryz.prog 39 #[.agg #[.slice v.Ac v.nc v.cc, .slice v.An v.nn v.cn, .slice v.Aa v.na v.ca], .string s] w
      fun e w' => e = .returned (.func (.func 84) #[] #[.pointer (some ⟨w.heap.size + 1, 0, none⟩), .pointer (some ⟨w.heap.size, 0, none⟩)]) ∧
        Blk w' w.heap.size 27 v.cells ∧ Blk w' (w.heap.size + 1) 9 #[.string s] ∧ Below w.heap.size w w' := by
  have hmf : ∀ (fn : Fn) (first cap : Array Value) (w : World), (Instr.makeFunc fn first cap).run Tryz.prog w = .ok (.func fn first cap) w := fun _ _ _ _ => rfl
  go_enter Tryz.func39, Tryz.ntmps39
  go_wp2_with fail
  go_ret
  refine ⟨rfl, (Blk.new' w _ _ rfl).alloc _, Blk.new' (w.alloc _) _ _ (by simp), ((Below.refl _ _).alloc (Nat.le_refl _) _).alloc (by simp) _⟩
end Go.Proofs.YtibdcnmaodmghaaGreatDoor
end
