/- The reference's Run returns the number that the automaton accepts a string with; Valid; light. -/
import Derived.Test.YtdpdggmafmebeaaText
namespace Go.Proofs.Ytdpdggmafmebeaa
open Go.RowKit

def Dfa.stepI (d : Dfa) (st : Int) (b : UInt8) : Int := if st < 0 then -1 else d.to st.toNat b
def runTo (d : Dfa) (s : ByteArray) : Nat → Int
  | 0 => 0
  | k + 1 => d.stepI (runTo d s k) (byteAt s k)
def Dfa.acI (d : Dfa) (st : Int) : Int := if st < 0 then -1 else d.ac st.toNat
def runL (d : Dfa) (s : ByteArray) : Int := d.acI (runTo d s s.size)
theorem stepI_bd {d : Dfa} {k : Nat} (ho : d.Ok k) (st : Int) (h : st < d.next.length) (b : UInt8) : -1 ≤ d.stepI st b ∧ d.stepI st b < d.next.length := by
  unfold Dfa.stepI
  have := ho.pos
  split
  · omega
  · exact ho.to_bd (by omega) b
theorem runTo_bd {d : Dfa} {k : Nat} (ho : d.Ok k) (s : ByteArray) : ∀ j, -1 ≤ runTo d s j ∧ runTo d s j < d.next.length
  | 0 => by have := ho.pos; simp [runTo]; omega
  | j + 1 => stepI_bd ho _ (runTo_bd ho s j).2 _

set_option maxHeartbeats 400000 in
theorem accept_any (v : DfaV) (d : Dfa) (k B : Nat) (s : Int) (w : World) (hd : DfaAt w B v d) (hB : B ≤ w.heap.size) (ho : d.Ok k) (hs : s < d.next.length) :
    Calls Try.prog 25 #[.agg #[.slice v.Ac v.nc v.cc, .slice v.An v.nn v.cn, .slice v.Aa v.na v.ca], .int .i64 s] w
      fun e w' => e = .returned (.int .i64 (d.acI s)) ∧ Below w.heap.size w w' := by
  unfold Dfa.acI
  by_cases h0 : s < 0
  · rw [if_pos h0]
    go_enter Try.func25, Try.ntmps25
    go_wp2_with fail
    go_ret
    exact ⟨rfl, (Below.refl _ _).alloc (Nat.le_refl _) _⟩
  · rw [if_neg h0]
    obtain ⟨s, rfl⟩ := Int.eq_ofNat_of_zero_le (Int.not_lt.1 h0)
    obtain ⟨ba, oa, q3, l4, hxn, c4⟩ := (hd.alloc hB (.cells v.cells 25)).acc_at ho (show s < d.next.length by omega)
    obtain ⟨Ac, nc, cc, An, nn, cn, Aa, na, ca⟩ := v
    simp only at q3 hxn
    subst q3
    have hba := hd.ba
    simp only [DfaV.cells, maxLen] at *
    clear hd
    go_enter Try.func25, Try.ntmps25
    go_wp2_with fail
    go_ret
    exact ⟨rfl, (Below.refl _ _).alloc (Nat.le_refl _) _⟩

set_option maxHeartbeats 400000 in
theorem run_any (v : DfaV) (d : Dfa) (k B : Nat) (s : ByteArray) (w : World) (hd : DfaAt w B v d) (hB : B ≤ w.heap.size) (ho : d.Ok k) (hs : s.size ≤ 9223372036854775000) :
    Calls Try.prog 16 #[.agg #[.slice v.Ac v.nc v.cc, .slice v.An v.nn v.cn, .slice v.Aa v.na v.ca], .string s] w
      fun e w' => e = .returned (.int .i64 (runL d s)) ∧ Below w.heap.size w w' := by
  have HD := Lib.hid (hd.more hB)
  clear hd
  obtain ⟨Ac, nc, cc, An, nn, cn, Aa, na, ca⟩ := v
  simp only at *
  go_enter Try.func16, Try.ntmps16
  go_wp2_with fail
  go_loopw [5, 6] (fun a b wr => ∃ (i : Nat) (st : Int), i ≤ s.size ∧ st < d.next.length ∧ a = .int .i64 st ∧ b = .int .i64 i ∧ Hid (st = runTo d s i) ∧
      Blk wr w.heap.size 25 #[.slice Ac nc cc, .slice An nn cn, .slice Aa na ca] ∧ Below w.heap.size w wr) (fun _ b _ => s.size - (intOf b).toNat)
  case atStart => exact ⟨0, 0, by omega, by have := ho.pos; omega, rfl, rfl, rfl, Blk.new' _ _ _ rfl, (Below.refl _ _).alloc (Nat.le_refl _) _⟩
  case round =>
    obtain ⟨i, st, hi, hst, rfl, rfl, HS, B0, hb⟩ := hrel
    have b0 := B0.cell 0
    have b1 := B0.cell 1
    have b2 := B0.cell 2
    simp at b0 b1 b2
    have HDr := Lib.hid ((HD.out.below hb))
    have hsz := hb.size
    by_cases hlt : i < s.size
    · have hbd := stepI_bd ho st hst (byteAt s i)
      have HBE := Lib.hid (byteAt_eq s i hlt)
      go_wp2_with fail
      go_still_tail 5, (by kernel_rfl)
      change wpList _ _ _ _ _ wr.drew
      go_wp2_with (go_at_call 24; refine (refStep_any ⟨Ac, nc, cc, An, nn, cn, Aa, na, ca⟩ d k w.heap.size st s[i] _ (HDr.out.drewN 1) hsz ho hst).mono ?_; rintro e w1 ⟨rfl, hb0⟩; have hb1 := below_from_drewN hb0)
      go_roundw
      case rel =>
        refine ⟨i + 1, _, by omega, ?_, rfl, by go_num, ?_, B0.below hb1 (by simpa using B0.lt), hb.trans (hb1.mono hsz)⟩
        · rw [← HBE.out]; exact hbd.2
        · show _ = d.stepI (runTo d s i) (byteAt s i)
          rw [← HS.out, HBE.out]; rfl
      case measure => simp [intOf]; omega
    · have hil : i = s.size := by omega
      subst hil
      have e1 := HS.out
      subst e1
      go_wp2_with (go_at_call 25; refine (accept_any ⟨Ac, nc, cc, An, nn, cn, Aa, na, ca⟩ d k w.heap.size _ _ HDr.out hsz ho hst).mono ?_; rintro e w1 ⟨rfl, hb1⟩)
      go_ret
      exact ⟨ret_int rfl, hb.trans (hb1.mono hsz)⟩
end Go.Proofs.Ytdpdggmafmebeaa
