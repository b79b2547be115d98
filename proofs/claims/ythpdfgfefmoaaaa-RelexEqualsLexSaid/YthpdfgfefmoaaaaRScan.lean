/- The reference's token at an offset is the one that 'scan' finds. -/
import Derived.Test.YthpdfgfefmoaaaaRDfa
namespace Go.Proofs.Ythpdfgfefmoaaaa
open Go.RowKit


def byteAt (s : ByteArray) (k : Nat) : UInt8 := s.data[k]?.getD 0
theorem byteAt_eq (s : ByteArray) (k : Nat) (h : k < s.size) : byteAt s k = s[k] := by
  have h' : k < s.data.size := h
  simp [byteAt, Array.getElem?_eq_getElem h']
  rfl

/-- From state st on, 'look' bytes behind offset i: the kind, the length and the lookahead (m: how many bytes are left). -/
def scan (d : Dfa) (s : ByteArray) (i : Nat) : Nat → Nat → Nat → Int → Nat → Int × Nat × Nat
  | 0, _, look, kind, size => (kind, size, look + 1)
  | m + 1, st, look, kind, size =>
    if d.to st (byteAt s (i + look)) < 0 then (kind, size, look + 1)
    else if 0 ≤ d.ac (d.to st (byteAt s (i + look))).toNat then scan d s i m (d.to st (byteAt s (i + look))).toNat (look + 1) (d.ac (d.to st (byteAt s (i + look))).toNat) (look + 1)
    else scan d s i m (d.to st (byteAt s (i + look))).toNat (look + 1) kind size
def scan0 (d : Dfa) (s : ByteArray) (i : Nat) : Int × Nat × Nat := scan d s i (s.size - i) 0 0 (-1) 1
def tokAt (d : Dfa) (s : ByteArray) (i : Nat) : Tok := ⟨(scan0 d s i).1, i, s.extract i (i + (scan0 d s i).2.1), (scan0 d s i).2.2⟩

theorem scan_end (d : Dfa) (s : ByteArray) (i st look : Nat) (kind : Int) (size m : Nat) (h : m = 0) : scan d s i m st look kind size = (kind, size, look + 1) := by subst h; rfl
theorem scan_stop (d : Dfa) (s : ByteArray) (i st look : Nat) (kind : Int) (size m : Nat) (hm : 0 < m) (h : d.to st (byteAt s (i + look)) < 0) : scan d s i m st look kind size = (kind, size, look + 1) := by
  obtain ⟨m, rfl⟩ : ∃ k, m = k + 1 := ⟨m - 1, by omega⟩
  simp [scan, h]
theorem scan_acc (d : Dfa) (s : ByteArray) (i st look : Nat) (kind : Int) (size m m' x : Nat) (hm : m = m' + 1) (h : d.to st (byteAt s (i + look)) = x) (ha : 0 ≤ d.ac x) :
    scan d s i m st look kind size = scan d s i m' x (look + 1) (d.ac x) (look + 1) := by
  subst hm
  simp only [scan, h]
  rw [if_neg (by omega), if_pos (by simpa using ha)]
  simp
theorem scan_go (d : Dfa) (s : ByteArray) (i st look : Nat) (kind : Int) (size m m' x : Nat) (hm : m = m' + 1) (h : d.to st (byteAt s (i + look)) = x) (ha : d.ac x < 0) :
    scan d s i m st look kind size = scan d s i m' x (look + 1) kind size := by
  subst hm
  simp only [scan, h]
  rw [if_neg (by omega), if_neg (by simp; omega)]
  simp

theorem DfaAt.acc_at {w : World} {B : Nat} {v : DfaV} {d : Dfa} {k : Nat} (h : DfaAt w B v d) (ho : d.Ok k) {s : Nat} (hs : s < d.next.length) :
    ∃ b off, v.Aa = some ⟨b, off, none⟩ ∧ b < B ∧ s < v.na ∧ w.cell? ⟨b, off + s, none⟩ = some (.int .i64 (d.ac s)) := by
  have hsa : s < v.na := by rw [← h.acc.len_ints, ho.acc]; exact hs
  obtain ⟨b, off, e, hb, hc⟩ := h.acc.int_at hsa
  exact ⟨b, off, e, hb, hsa, hc⟩

set_option maxHeartbeats 1000000 in
theorem refAt_any (v : DfaV) (d : Dfa) (k B i : Nat) (s : ByteArray) (w : World) (hd : DfaAt w B v d) (hB : B ≤ w.heap.size) (ho : d.Ok k) (hi : i < s.size) (hs : s.size ≤ 9223372036854775000) :
    Calls Try.prog 20 #[.agg #[.slice v.Ac v.nc v.cc, .slice v.An v.nn v.cn, .slice v.Aa v.na v.ca], .string s, .int .i64 i] w
      fun e w' => e = .returned (.agg #[.int .i64 (tokAt d s i).kind, .int .i64 (tokAt d s i).pos, .string (tokAt d s i).text, .int .i64 (tokAt d s i).look]) ∧ Below w.heap.size w w' := by
  have hd1 := (hd.alloc hB (.cells v.cells 25)).alloc (by simp; omega) (.cells #[.int .i64 0, .int .i64 0, .string ⟨#[]⟩, .int .i64 0] 47)
  have hpos := ho.pos
  have HP : Hid (scan d s i (s.size - i - 0) 0 0 (-1) 1 = scan0 d s i) := rfl
  obtain ⟨Ac, nc, cc, An, nn, cn, Aa, na, ca⟩ := v
  have hbc := hd.bc
  have hbn := hd.bn
  have hba := hd.ba
  simp only [DfaV.cells, maxLen] at *
  clear hd
  go_enter Try.func20, Try.ntmps20
  go_wp2_with fail
  go_loopw [7, 8, 9, 10] (fun a b c e wr => ∃ (st look size : Nat) (kind : Int), st < d.next.length ∧ i + look ≤ s.size ∧ 1 ≤ size ∧ i + size ≤ s.size ∧ a = .int .i64 st ∧ b = .int .i64 look ∧ c = .int .i64 kind ∧ e = .int .i64 size ∧
      (∃ nd, wr = ((w.alloc (.cells #[.slice Ac nc cc, .slice An nn cn, .slice Aa na ca] 25)).alloc (.cells #[.int .i64 0, .int .i64 0, .string ⟨#[]⟩, .int .i64 0] 47)).drewN nd) ∧
      Hid (scan d s i (s.size - i - look) st look kind size = scan0 d s i)) (fun _ b _ _ _ => s.size - (intOf b).toNat)
  case atStart => exact ⟨0, 0, 1, -1, hpos, by omega, by omega, by omega, rfl, rfl, rfl, rfl, ⟨0, rfl⟩, HP⟩
  case round =>
    obtain ⟨st, look, size, kind, hst, hlook, hsz1, hsz, rfl, rfl, rfl, rfl, ⟨nd, rfl⟩, HS⟩ := hrel
    by_cases he : i + look = s.size
    · have he' : ((i : Int) + (look : Int) == (s.size : Int)) = true := by simp; omega
      have HE := Lib.hid he
      clear he hd1
      go_wp2_with fail
      have e1 := HS.out.symm.trans (scan_end d s i st look kind size _ (by have := HE.out; omega))
      have e2 : tokAt d s i = ⟨kind, i, s.extract i (i + size), look + 1⟩ := by simp [tokAt, e1]
      have hb := ((Blk.new (w.alloc (.cells #[.slice Ac nc cc, .slice An nn cn, .slice Aa na ca] 25)) 47 #[.int .i64 0, .int .i64 0, .string ⟨#[]⟩, .int .i64 0]).drewN nd).set4 (.int .i64 kind) (.int .i64 i) (.string (s.extract i (i + size))) (.int .i64 ((look : Int) + 1))
      simp only [World.size_alloc] at hb
      refine bodyPost_ret (results_tok rfl rfl (hb.cell 0) (hb.cell 1) (hb.cell 2) (hb.cell 3)) rfl ⟨by rw [e2], ?_⟩
      exact (((((below_drewN (((Below.refl _ _).alloc (Nat.le_refl _) _).alloc (by simp) _) _).setCell (by simp) _).setCell (by simp) _).setCell (by simp) _).setCell (by simp) _)
    · have hlt : i + look < s.size := by omega
      have he' : ((i : Int) + (look : Int) == (s.size : Int)) = false := by simp; omega
      have HL := Lib.hid hlt
      have HE := Lib.hid he
      clear he
      have hbd := ho.to_bd hst (s[i + look]'hlt)
      obtain ⟨bc, oc, bn, on, br, or_, n, c, cl, q2, q1, l2, l1, l3, hsn, hbn', hcn, hn, c2, c1, c3⟩ := hd1.step_at ho hst (s[i + look]'hlt)
      simp only at q1 q2 hsn hbn'
      subst q1; subst q2
      have w1 : IntKind.i64.wrap ((i : Int) + (look : Int)) = (i : Int) + look := IntWalk.i64_in _ (by omega)
      have w2 : (0 : Int) ≤ (i : Int) + look := by omega
      have w3 : ((i : Int) + look).toNat = i + look := by omega
      have w4 : (i : Int) + (look : Int) < (s.size : Int) := by omega
      have hbe : d.to st (byteAt s (i + look)) = d.to st (s[i + look]'hlt) := by rw [byteAt_eq s _ hlt]
      have HB := Lib.hid hbe
      clear hbe
      by_cases hx : d.to st (s[i + look]'hlt) < 0
      · go_wp2_with fail
        go_quiet (fail)
        clear w1
        have e1 := HS.out.symm.trans (scan_stop d s i st look kind size _ (by omega) (by rw [HB.out]; exact hx))
        have e2 : tokAt d s i = ⟨kind, i, s.extract i (i + size), look + 1⟩ := by simp [tokAt, e1]
        have E2 := Lib.hid e2
        clear e1 e2
        go_wp2_with fail
        have hb := ((Blk.new (w.alloc (.cells #[.slice (some ⟨bc, oc, none⟩) nc cc, .slice (some ⟨bn, on, none⟩) nn cn, .slice Aa na ca] 25)) 47 #[.int .i64 0, .int .i64 0, .string ⟨#[]⟩, .int .i64 0]).drewN (nd + nq)).set4 (.int .i64 kind) (.int .i64 i) (.string (s.extract i (i + size))) (.int .i64 ((look : Int) + 1))
        simp only [World.size_alloc] at hb
        refine bodyPost_ret (results_tok rfl rfl (hb.cell 0) (hb.cell 1) (hb.cell 2) (hb.cell 3)) rfl ⟨by rw [E2.out], ?_⟩
        exact (((((below_drewN (((Below.refl _ _).alloc (Nat.le_refl _) _).alloc (by simp) _) _).setCell (by simp) _).setCell (by simp) _).setCell (by simp) _).setCell (by simp) _)
      · obtain ⟨x, hxe⟩ := Int.eq_ofNat_of_zero_le (Int.not_lt.1 hx)
        rw [hxe] at c3 hbd HB hx
        have hxl : x < d.next.length := by omega
        obtain ⟨ba, oa, q3, l4, hxn, c4⟩ := hd1.acc_at ho hxl
        simp only at q3 hxn
        subst q3
        clear hd1 hxe
        by_cases ha : 0 ≤ d.ac x
        · go_wp2_with fail
          go_quiet (fail)
          clear w1
          go_wp2_with fail
          go_roundw
          case rel => exact ⟨x, look + 1, look + 1, d.ac x, hxl, by omega, by omega, by omega, rfl, by go_num, rfl, by go_num, drew1 _ _, (scan_acc d s i st look kind size (s.size - i - look) (s.size - i - (look + 1)) x (by omega) HB.out ha).symm.trans HS.out⟩
          case measure => simp [intOf]; omega
        · go_wp2_with fail
          go_quiet (fail)
          clear w1
          go_wp2_with fail
          go_roundw
          case rel => exact ⟨x, look + 1, size, kind, hxl, by omega, by omega, by omega, rfl, by go_num, rfl, rfl, drew1 _ _, (scan_go d s i st look kind size (s.size - i - look) (s.size - i - (look + 1)) x (by omega) HB.out ha).symm.trans HS.out⟩
          case measure => simp [intOf]; omega
end Go.Proofs.Ythpdfgfefmoaaaa
