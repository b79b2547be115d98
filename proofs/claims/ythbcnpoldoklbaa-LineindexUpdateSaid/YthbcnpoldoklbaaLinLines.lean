/- The reference's Lines and Line: the lines of a text. -/
import Derived.Test.YthbcnpoldoklbaaLinRef
namespace Go.Proofs.Ythbcnpoldoklbaa
open Go.RowKit

def strs (l : List ByteArray) : List Value := l.map Value.string
theorem strs_append (l m : List ByteArray) : strs (l ++ m) = strs l ++ strs m := by simp [strs]
def lnText (s : ByteArray) (k : Nat) : ByteArray := s.extract (spanF s k) (spanT s k)
/-- The lines that end among the first i bytes. -/
def linesTo (s : ByteArray) (i : Nat) : List ByteArray := (List.range (lineNo s i)).map (lnText s)
def linesL (s : ByteArray) : List ByteArray := (List.range ((starts s).length + 1)).map (lnText s)
theorem starts_at {s : ByteArray} {i : Nat} (hi : i < s.size) (h : nlAt s i = true) : (starts s)[lineNo s i]? = some (i + 1) := by
  obtain ⟨r, h1, _⟩ := startsTo_split s (show i + 1 ≤ s.size by omega)
  have h2 := startsTo_succ s i
  rw [h] at h2
  simp only [if_true] at h2
  unfold starts lineNo
  rw [h1, h2, List.append_assoc, List.getElem?_append_right (Nat.le_refl _)]
  simp
theorem lnText_at {s : ByteArray} {i : Nat} (hi : i < s.size) (h : nlAt s i = true) : lnText s (lineNo s i) = s.extract (lineAt s i) i := by
  unfold lnText
  rw [spanF_line s (by omega)]
  have hx := starts_at hi h
  unfold spanT
  rw [if_pos (List.getElem?_eq_some_iff.1 hx).1, hx]
  rfl
theorem linesTo_nl {s : ByteArray} {i : Nat} (hi : i < s.size) (h : nlAt s i = true) : linesTo s (i + 1) = linesTo s i ++ [s.extract (lineAt s i) i] := by
  unfold linesTo
  rw [(line_nl h).1, List.range_succ, List.map_append, ← lnText_at hi h]
  rfl
theorem linesTo_no {s : ByteArray} {i : Nat} (h : nlAt s i = false) : linesTo s (i + 1) = linesTo s i := by
  unfold linesTo
  rw [(line_no h).1]
theorem linesL_end (s : ByteArray) : linesL s = linesTo s s.size ++ [s.extract (lineAt s s.size) s.size] := by
  unfold linesL linesTo
  rw [List.range_succ, List.map_append]
  have h1 : lnText s (starts s).length = s.extract (lineAt s s.size) s.size := by
    unfold lnText
    have h2 := spanF_line s (Nat.le_refl s.size)
    have h3 : lineNo s s.size = (starts s).length := rfl
    rw [h3] at h2
    rw [h2]
    unfold spanT
    rw [if_neg (by omega)]
  show _ ++ [lnText s (starts s).length] = _
  rw [h1]
  rfl
theorem linesTo_length (s : ByteArray) (i : Nat) : (linesTo s i).length = lineNo s i := by simp [linesTo]
theorem linesL_length (s : ByteArray) : (linesL s).length = (starts s).length + 1 := by simp [linesL]
theorem Try.infoStr : (Try.prog.info? 9).map (fun i => (i.zero, i.size, i.bytes)) = some (some (.string ⟨#[]⟩), 1, 16) := by kernel_rfl
/-- What a call hands back that makes a list of strings. -/
def RetStrs (l : List ByteArray) (w : World) (e : Ending) (w' : World) : Prop :=
  ∃ A c, e = .returned (.slice A l.length c) ∧ Reads w' w'.heap.size 1 A l.length (strs l) ∧ Below w.heap.size w w'

set_option maxHeartbeats 2000000 in
theorem refLines_any (s : ByteArray) (w : World) (hs : s.size ≤ 1048577) : Calls Try.prog 22 #[.string s] w (RetStrs (linesL s) w) := by
  obtain ⟨i0, hi0, hz0, hz1, hz2⟩ := info_parts Try.infoStr
  go_enter Try.func22, Try.ntmps22
  go_wp2_with fail
  go_loopw [3, 4, 5] (fun v f a wr => ∃ i : Nat, i ≤ s.size ∧ a = .int .i64 i ∧ f = .int .i64 (lineAt s i) ∧ wr.ownsRow w.heap.size 9 1 v (linesTo s i).length (strs (linesTo s i)) ∧ Below w.heap.size w wr) (fun _ _ a _ => s.size - (intOf a).toNat)
  case atStart => exact ⟨0, Nat.zero_le _, rfl, rfl, World.ownsRow_nil _ _ _ _, Below.refl _ _⟩
  case round =>
    obtain ⟨i, hi, rfl, rfl, hown, hb⟩ := hrel
    have hsz := hb.size
    have hll : (linesTo s i).length ≤ i := by rw [linesTo_length]; exact startsTo_length s i
    have hla := lineAt_le s i
    by_cases hlt : i < s.size
    · have hbt := byte_test s hlt
      have v0 : IntKind.i64.wrap ((i : Int) + 1) = (i : Int) + 1 := IntWalk.i64_in _ (by omega)
      cases hc : nlAt s i with
      | false =>
        rw [hc] at hbt
        have HN := Lib.hid (line_no hc)
        have HT := Lib.hid (linesTo_no hc)
        clear hc
        go_wp2_with fail
        go_roundw
        case rel =>
          refine ⟨i + 1, by omega, by go_num, by rw [HN.out.2], ?_, hb⟩
          rw [HT.out]
          exact hown
        case measure => simp [intOf]; omega
      | true =>
        rw [hc] at hbt
        have HN := Lib.hid (line_nl hc)
        have HT := Lib.hid (linesTo_nl hlt hc)
        clear hc
        generalize linesTo s i = acc at *
        generalize lineAt s i = f at *
        go_wp2_with (at_builtin; refine wpList_append_own _ rfl _ _ 51 rfl w.heap.size 9 i0 (.string ⟨#[]⟩) 1 16 Try.underlying51 hi0 hz0 hz1 hz2 rfl (by decide) _ acc.length (strs acc) rfl (hown.alloc _) ⟨wr.heap.size, 0, none⟩ 1 1 [.string (s.extract f i)] rfl rfl ?_ ?_ ?_ ?_ ?_ ?_)
        · intro j u hj
          rw [Addr.add_lit, (Blk.new' _ _ _ rfl).cell]
          simpa using hj
        · intro u hu
          simp at hu
          subst hu
          rfl
        · unfold maxLen; omega
        · omega
        · first | omega | (simp; omega)
        intro v' w2 hown' hgrow _
        have hlt0 := hown.lt
        have hb' : Below w.heap.size w w2 := (hb.alloc hb.size _).grown hgrow (by simp; omega) (fun k hk => by have := hlt0 k hk; omega)
        clear hown hgrow
        go_wp2_with fail
        go_roundw
        case rel =>
          refine ⟨i + 1, by omega, by go_num, by rw [HN.out.2]; go_num, ?_, hb'⟩
          rw [HT.out, List.length_append, strs_append]
          exact hown'
        case measure => simp [intOf]; omega
    · have his : i = s.size := by omega
      subst his
      have HE := Lib.hid (linesL_end s)
      generalize linesTo s s.size = acc at *
      generalize lineAt s s.size = f at *
      go_wp2_with (at_builtin; refine wpList_append_own _ rfl _ _ 51 rfl w.heap.size 9 i0 (.string ⟨#[]⟩) 1 16 Try.underlying51 hi0 hz0 hz1 hz2 rfl (by decide) _ acc.length (strs acc) rfl (hown.alloc _) ⟨wr.heap.size, 0, none⟩ 1 1 [.string (s.extract f s.size)] rfl rfl ?_ ?_ ?_ ?_ ?_ ?_)
      · intro j u hj
        rw [Addr.add_lit, (Blk.new' _ _ _ rfl).cell]
        simpa using hj
      · intro u hu
        simp at hu
        subst hu
        rfl
      · unfold maxLen; omega
      · omega
      · first | omega | (simp; omega)
      intro v' w2 hown' hgrow _
      have hlt0 := hown.lt
      have hb' : Below w.heap.size w w2 := (hb.alloc hb.size _).grown hgrow (by simp; omega) (fun k hk => by have := hlt0 k hk; omega)
      obtain ⟨A', c', rfl, _, _⟩ := own_form hown'
      clear hown hgrow
      go_wp2_with fail
      go_ret
      rw [HE.out]
      refine ⟨A', c', by rw [List.length_append]; rfl, ?_, hb'⟩
      rw [List.length_append, strs_append]
      exact Reads.of_own hown'
end Go.Proofs.Ythbcnpoldoklbaa
