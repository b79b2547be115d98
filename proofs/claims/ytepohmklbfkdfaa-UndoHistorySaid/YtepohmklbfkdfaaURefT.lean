/- The reference's Text. -/
import Derived.Test.YtepohmklbfkdfaaULaw
import Derived.Test.YtepohmklbfkdfaaURefI
namespace Go.Proofs.Ytepohmklbfkdfaa
open Go.RowKit

/-- All texts on the way are small, and the edits too. -/
structure Fine (S : ByteArray) (E : List Ed) : Prop where
  T : ∀ k, (tx S (E.take k)).size ≤ 1048576
  I : ∀ e ∈ E, e.ins.size ≤ 1048576
theorem CInv.fine {s : ByteArray} {k : Nat} {c : CH} (h : CInv s k c) (hs : s.size ≤ 20000) : Fine c.S c.E :=
  ⟨fun i => by have := h.ok.text_le i; rw [h.S] at this ⊢; omega, fun e he => by have := h.ok.ins_le he; omega⟩

set_option maxHeartbeats 1000000 in
theorem refText_any (S : ByteArray) (A : Option Addr) (n c B d : Nat) (v : Int) (E : List Ed) (w : World) (hl : Reads w B 3 A n (eds E)) (hB : B ≤ w.heap.size) (hd : d ≤ n) (hn : n ≤ 1000) (hf : Fine S E) :
    Calls Try.prog 16 #[.agg #[.string S, .slice A n c, .int .i64 d, .int .i64 v]] w fun e w' => e = .returned (.string (tx S (E.take d))) ∧ Below w.heap.size w w' := by
  have HL := Lib.hid hl
  have HLN := Lib.hid hl.len_eds
  have HF := Lib.hid hf
  have K := Blk.new' w 29 #[.string S, .slice A n c, .int .i64 d, .int .i64 v] rfl
  have hb0 : Below w.heap.size w (w.alloc (.cells #[.string S, .slice A n c, .int .i64 d, .int .i64 v] 29)) := (Below.refl _ _).alloc (Nat.le_refl _) _
  clear hl hf
  go_enter Try.func16, Try.ntmps16
  go_wp2_with fail
  go_loopw [3, 4] (fun x a wr => ∃ k : Nat, k ≤ d ∧ a = .int .i64 k ∧ x = .string (tx S (E.take k)) ∧ Hid (Blk wr w.heap.size 29 #[.string S, .slice A n c, .int .i64 d, .int .i64 v]) ∧ Below w.heap.size w wr) (fun _ a _ => d - (intOf a).toNat)
  case atStart => exact ⟨0, Nat.zero_le _, rfl, by simp [tx], K, hb0⟩
  case round =>
    obtain ⟨k, hk, rfl, rfl, HK, hb⟩ := hrel
    have hsz := hb.size
    have hgl := HK.out.lt
    have x1 := HK.out.cell 1
    have x2 := HK.out.cell 2
    simp at x1 x2
    by_cases hlt : k < d
    · obtain ⟨b, off, t, rfl, hbl, ht, h0, h1, h2⟩ := (HL.out.below (hb.mono hB)).ed_at (show k < n by omega)
      have hT := HF.out.T k
      have hI := HF.out.I t (List.mem_of_getElem? ht)
      have hs : tx S (E.take (k + 1)) = apT (tx S (E.take k)) t := by rw [take_snoc_ed ht, tx_snoc]
      obtain ⟨ep, ed, ei⟩ := t
      simp only at h0 h1 h2 hI
      obtain ⟨T, hTT⟩ : ∃ T, tx S (E.take k) = T := ⟨_, rfl⟩
      rw [hTT] at hT hs ⊢
      have HS := Lib.hid hs
      clear ht hs hTT
      go_wp2_with fail
      refine (refApply_any T ep ed ei _ (by omega)).mono ?_
      rw [← HS.out]
      rintro e w1 ⟨rfl, hb1⟩
      have HK1 := Lib.hid (HK.out.below hb1 hgl)
      have hbb1 := hb.trans (hb1.mono hsz)
      go_wp2_with fail
      go_roundw
      case rel => exact ⟨k + 1, by omega, by go_num, rfl, HK1, hbb1⟩
      case measure => simp [intOf]; omega
    · have hkd : k = d := by omega
      subst hkd
      go_wp2_with fail
      go_ret
      exact ⟨rfl, hb⟩
end Go.Proofs.Ytepohmklbfkdfaa
