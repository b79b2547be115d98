/- New returns the text and the starts of its lines but the first. -/
import Derived.Test.YthbcnpoldoklbaaLine
namespace Go.Proofs.Ythbcnpoldoklbaa
open Go.RowKit

theorem results_index {fn : Func} {p : Tmp} (h : fn.results = #[.cell p 25]) {tmps : Array Value} {b o : Nat} (hp : tmps.getD p undef = .pointer (some ⟨b, o, none⟩)) {w : World} {s : ByteArray} {x : Option Addr} {n c : Nat}
    (h0 : w.cell? ⟨b, o, none⟩ = some (.string s)) (h1 : w.cell? ⟨b, o + 1, none⟩ = some (.slice x n c)) :
    (results fn tmps).run Try.prog w = .ok (.agg #[.string s, .slice x n c]) w := by
  rw [results_cell h tmps _ hp]
  simp [go_sem, h0, h1]
theorem Try.infoInt : (Try.prog.info? 3).map (fun i => (i.zero, i.size, i.bytes)) = some (some (.int .i64 0), 1, 8) := by kernel_rfl
theorem own_setCell {w : World} {base : Nat} {e : TypeId} {size n : Nat} {v : Value} {xs : List Value} (h : w.ownsRow base e size v n xs) {p : Addr} (hp : p.block < base) (u : Value) : (w.setCell p u).ownsRow base e size v n xs :=
  h.kept (row := some p.block) ⟨rfl, rfl, rfl, by simp, fun k _ hk => Below.heap_setCell w p u k (fun e => hk (by rw [e]))⟩ (by
    by_cases hv : v.ownBlock = none
    · exact .inl hv
    · right
      intro e
      have := (h.lt _ e).1
      omega)
theorem Blk.set2 {w : World} {g : Nat} {t : TypeId} {a0 a1 : Value} (h : Blk w g t #[a0, a1]) (x0 x1 : Value) :
    Blk ((w.setCell ⟨g, 0, none⟩ x0).setCell ⟨g, 1, none⟩ x1) g t #[x0, x1] := by
  have := (h.set_ 0 x0).set_ 1 x1
  simpa using this
theorem Blk.set21 {w : World} {g : Nat} {t : TypeId} {a0 a1 : Value} (h : Blk w g t #[a0, a1]) (x1 : Value) :
    Blk (w.setCell ⟨g, 1, none⟩ x1) g t #[a0, x1] := by
  have := h.set_ 1 x1
  simpa using this
/-- What a call hands back that makes an index. -/
def RetIndex (s : ByteArray) (w : World) (e : Ending) (w' : World) : Prop :=
  ∃ A n c, e = .returned (.agg #[.string s, .slice A n c]) ∧ n ≤ maxLen ∧ Reads w' w'.heap.size 1 A n (nats (starts s)) ∧ Below w.heap.size w w'

set_option maxHeartbeats 1000000 in
theorem new_any (s : ByteArray) (w : World) (hs : s.size ≤ 1048576) : Calls Try.prog 11 #[.string s] w (RetIndex s w) := by
  obtain ⟨i0, hi0, hz0, hz1, hz2⟩ := info_parts Try.infoInt
  go_enter Try.func11, Try.ntmps11
  go_wp2_with fail
  go_loopw [9] (fun a wr => ∃ (i : Nat) (v : Value), i ≤ s.size ∧ a = .int .i64 i ∧ wr.ownsRow (w.heap.size + 1 + 1) 3 1 v (startsTo s i).length (nats (startsTo s i)) ∧
      Blk wr w.heap.size 25 #[.string ⟨#[]⟩, .slice none 0 0] ∧ Blk wr (w.heap.size + 1) 25 #[.string s, v] ∧ Below w.heap.size w wr) (fun a _ => s.size - (intOf a).toNat)
  case atStart =>
    refine ⟨0, .slice none 0 0, Nat.zero_le _, rfl, World.ownsRow_nil _ _ _ _, ?_, ?_, ((Below.refl _ _).alloc (Nat.le_refl _) _).alloc (by simp) _⟩
    · exact (Blk.new' _ _ _ rfl).alloc _
    · exact Blk.new' _ _ _ (by simp)
  case round =>
    obtain ⟨i, v, hi, rfl, hown, B2, B3, hb⟩ := hrel
    have hsz := hb.size
    have hlen := startsTo_length s i
    have hB3 := B3.lt
    obtain ⟨vA, vc, rfl, hvc, hvm⟩ := own_form hown
    have b0 := B3.cell 0
    have b1 := B3.cell 1
    have f0 := B3.frozen 0
    have f1 := B3.frozen 1
    simp at b0 b1
    by_cases hlt : i < s.size
    · have hst := startsTo_succ s i
      have hnx : ((s[i].toNat : Int) == 10) = nlAt s i := by
        unfold nlAt
        rw [byteAt_eq s i hlt]
        generalize s[i] = x
        have : ((x.toNat : Int) = 10) ↔ x = 10 := by
          rw [← UInt8.toNat_inj]
          simp
          omega
        by_cases h : x = 10
        · subst h; rfl
        · have h2 : ¬ (x.toNat : Int) = 10 := fun e => h (this.1 e)
          rw [beq_eq_false_iff_ne.2 h2, beq_eq_false_iff_ne.2 h]
      have w1' : IntKind.i64.wrap ((i : Int) + 1) = (i : Int) + 1 := IntWalk.i64_in _ (by omega)
      cases hc : nlAt s i with
      | false =>
        rw [hc] at hnx
        rw [hc] at hst
        simp only [Bool.false_eq_true, if_false] at hst
        have HST := Lib.hid hst
        clear hst hc
        go_wp2_with fail
        go_roundw
        case rel =>
          refine ⟨i + 1, _, by omega, by go_num, ?_, B2, B3, hb⟩
          rw [HST.out]
          exact hown
        case measure => simp [intOf]; omega
      | true =>
        rw [hc] at hnx
        rw [hc] at hst
        simp only [if_true] at hst
        have HST := Lib.hid hst
        clear hst hc
        generalize hacc : startsTo s i = acc at *
        go_wp2_with (at_builtin; refine wpList_append_own _ rfl _ _ 23 rfl (w.heap.size + 1 + 1) 3 i0 (.int .i64 0) 1 8 Try.underlying23 hi0 hz0 hz1 hz2 rfl (by decide) _ acc.length (nats acc) rfl (hown.alloc _) ⟨wr.heap.size, 0, none⟩ 1 1 [.int .i64 ((i : Int) + 1)] rfl rfl ?_ ?_ ?_ ?_ ?_ ?_)
        · intro j u hj
          rw [Addr.add_lit, (Blk.new' _ _ _ rfl).cell]
          simpa using hj
        · intro u hu
          simp at hu
          subst hu
          rfl
        · unfold maxLen; omega
        · omega
        · first | omega | (simp; omega)
        intro v' w2 hown' hgrow _
        obtain ⟨A', c', rfl, _, _⟩ := own_form hown'
        have hlt0 := hown.lt
        have hlt1 := (hown.alloc (.cells #[.int .i64 ((i : Int) + 1)] 3)).lt
        have B2' := (B2.alloc (.cells #[.int .i64 ((i : Int) + 1)] 3)).grown hgrow (fun e => by have := hlt0 _ e.symm; omega)
        have B3' := (B3.alloc (.cells #[.int .i64 ((i : Int) + 1)] 3)).grown hgrow (fun e => by have := hlt0 _ e.symm; omega)
        have hb' : Below w.heap.size w w2 := (hb.alloc hb.size _).grown hgrow (by simp; omega) (fun k hk => by have := hlt0 k hk; omega)
        have c0 := B3'.cell 0
        have c1 := B3'.cell 1
        have e0 := B3'.frozen 0
        have e1 := B3'.frozen 1
        simp at c0 c1
        clear hown hgrow
        go_wp2_with fail
        go_roundw
        case rel =>
          refine ⟨i + 1, _, by omega, by go_num, ?_, B2'.far (by simp) _, B3'.set21 _, hb'.setCell (by simp) _⟩
          rw [HST.out]
          refine own_setCell ?_ (by simp) _
          have : nats (acc ++ [i + 1]) = nats acc ++ [.int .i64 ((i : Int) + 1)] := by simp [nats]
          rw [this, List.length_append]
          exact hown'
        case measure => simp [intOf]; omega
    · have his : i = s.size := by omega
      subst his
      have a0 := B2.cell 0
      have a1 := B2.cell 1
      have d0 := B2.frozen 0
      have d1 := B2.frozen 1
      simp at a0 a1
      go_wp2_with fail
      have R := B2.set2 (.string s) (.slice vA (startsTo s s.size).length vc)
      refine bodyPost_ret (results_index rfl rfl (R.cell 0) (R.cell 1)) rfl ⟨vA, _, vc, rfl, by unfold maxLen; omega, ?_, (hb.setCell (by simp) _).setCell (by simp) _⟩
      have o1 := own_setCell (own_setCell hown (p := ⟨w.heap.size, 0, none⟩) (by simp; omega) (.string s)) (p := ⟨w.heap.size, 1, none⟩) (by simp; omega) (.slice vA (startsTo s s.size).length vc)
      exact Reads.of_own o1
end Go.Proofs.Ythbcnpoldoklbaa
