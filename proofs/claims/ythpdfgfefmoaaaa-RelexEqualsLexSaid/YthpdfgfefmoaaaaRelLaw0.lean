/- The laws' conditions: Small, may. -/
import Derived.Test.YthpdfgfefmoaaaaRValid
import Derived.Test.YthpdfgfefmoaaaaRelAwake
namespace Go.Proofs.Ythpdfgfefmoaaaa
open Go.RowKit

set_option maxHeartbeats 1000000 in
theorem small_any (v : DfaV) (d : Dfa) (B : Nat) (p q : Int) (w : World) (hd : DfaAt w B v d) (hB : B ≤ w.heap.size) :
    Calls Try.prog 15 #[.agg #[.slice v.Ac v.nc v.cc, .slice v.An v.nn v.cn, .slice v.Aa v.na v.ca], .int .i64 p, .int .i64 q] w (RetIf (∃ k, d.Ok k) w) := by
  have HD := Lib.hid (hd.alloc hB (.cells #[.slice v.Ac v.nc v.cc, .slice v.An v.nn v.cn, .slice v.Aa v.na v.ca] 25))
  have K := Blk.new' w 25 #[.slice v.Ac v.nc v.cc, .slice v.An v.nn v.cn, .slice v.Aa v.na v.ca] rfl
  have hbn := hd.bn
  clear hd
  go_enter Try.func15, Try.ntmps15
  go_wp2_with fail
  refine (valid_any v d B _ HD.out (by simp; omega)).mono ?_
  rintro e w1 ⟨b, rfl, hok, hb1⟩
  simp only [World.size_alloc] at hb1
  have K1 := K.below hb1 (by omega)
  have k1 := K1.cell 1
  simp at k1
  have hbw : Below w.heap.size w w1 := ((Below.refl _ _).alloc (Nat.le_refl _) _).trans (hb1.mono (by omega))
  cases b with
  | false =>
    go_wp2_with fail
    go_ret
    exact ⟨false, rfl, by simp, hbw⟩
  | true =>
    have HK := Lib.hid (hok rfl)
    have HD1 := HD.out.below (hb1.mono (by omega))
    obtain ⟨k, ho⟩ := hok rfl
    have hpos := ho.pos
    rw [HD1.len_next] at hpos
    obtain ⟨bn, on, A0, n0, c0, r0, e0, _, hr0, z0, R0, hn0⟩ := HD1.row_at (i := 0) hpos
    unfold maxLen at hn0 hbn
    rw [Nat.add_zero] at z0
    obtain ⟨Ac, nc, cc, An, nn, cn, Aa, na, ca⟩ := v
    simp only at e0 hpos hbn k1
    subst e0
    have hnpos : (0 : Int) < (nn : Int) := by omega
    clear HD1 hr0 R0 hok
    by_cases h1 : (nn : Int) ≤ p
    · have h1d : decide ((nn : Int) ≤ p) = true := by simp [h1]
      by_cases h2 : (n0 : Int) ≤ q
      · have h2d : decide ((n0 : Int) ≤ q) = true := by simp [h2]
        go_wp2_with fail
        go_ret
        exact ⟨true, rfl, fun _ => HK.out, hbw⟩
      · have h2d : decide ((n0 : Int) ≤ q) = false := by simp; omega
        go_wp2_with fail
        go_ret
        exact ⟨false, rfl, by simp, hbw⟩
    · have h1d : decide ((nn : Int) ≤ p) = false := by simp; omega
      go_wp2_with fail
      go_ret
      exact ⟨false, rfl, by simp, hbw⟩

/-- The cells of an Ask. -/
def askC (v : DfaV) (s : ByteArray) (i j : Int) (t : ByteArray) : Array Value := #[.slice v.Ac v.nc v.cc, .slice v.An v.nn v.cn, .slice v.Aa v.na v.ca, .string s, .int .i64 i, .int .i64 j, .string t]
theorem ask_cells {w : World} {g : Nat} {v : DfaV} {s t : ByteArray} {i j : Int} (K : Blk w g 29 #[.slice v.Ac v.nc v.cc, .slice v.An v.nn v.cn, .slice v.Aa v.na v.ca, .string s, .int .i64 i, .int .i64 j, .string t]) :
    w.cell? ⟨g, 0, none⟩ = some (.slice v.Ac v.nc v.cc) ∧ w.cell? ⟨g, 1, none⟩ = some (.slice v.An v.nn v.cn) ∧ w.cell? ⟨g, 2, none⟩ = some (.slice v.Aa v.na v.ca) ∧ w.cell? ⟨g, 3, none⟩ = some (.string s) ∧
      w.cell? ⟨g, 4, none⟩ = some (.int .i64 i) ∧ w.cell? ⟨g, 5, none⟩ = some (.int .i64 j) ∧ w.cell? ⟨g, 6, none⟩ = some (.string t) :=
  ⟨K.cell 0, K.cell 1, K.cell 2, K.cell 3, K.cell 4, K.cell 5, K.cell 6⟩

set_option maxHeartbeats 1000000 in
theorem may_any (v : DfaV) (d : Dfa) (B : Nat) (s t : ByteArray) (i j : Int) (w : World) (hd : DfaAt w B v d) (hB : B ≤ w.heap.size) (hs : s.size ≤ maxLen) (ht : t.size ≤ maxLen) :
    Calls Try.prog 9 #[.agg #[.slice v.Ac v.nc v.cc, .slice v.An v.nn v.cn, .slice v.Aa v.na v.ca, .string s, .int .i64 i, .int .i64 j, .string t]] w
      (RetIf ((∃ k, d.Ok k) ∧ s.size ≤ 100 ∧ t.size ≤ 30) w) := by
  have HD := Lib.hid (hd.alloc hB (.cells (askC v s i j t) 29))
  have K := Blk.new' w 29 (askC v s i j t) rfl
  simp only [askC] at K HD
  clear hd
  go_enter Try.func9, Try.ntmps9
  go_wp2_with fail
  refine (small_any v d B 40 20 _ HD.out (by simp; omega)).mono ?_
  rintro e w1 ⟨b, rfl, hok, hb1⟩
  simp only [World.size_alloc] at hb1
  obtain ⟨k0, k1, k2, k3, k4, k5, k6⟩ := ask_cells (K.below hb1 (by omega))
  have hbw : Below w.heap.size w w1 := ((Below.refl _ _).alloc (Nat.le_refl _) _).trans (hb1.mono (by omega))
  unfold maxLen at hs ht
  cases b with
  | false =>
    go_wp2_with fail
    go_ret
    exact ⟨false, rfl, by simp, hbw⟩
  | true =>
    have HK := Lib.hid (hok rfl)
    clear hok
    by_cases h1 : s.size ≤ 100
    · have h1d : decide ((s.size : Int) ≤ 100) = true := by simp; omega
      by_cases h2 : t.size ≤ 30
      · have h2d : decide ((t.size : Int) ≤ 30) = true := by simp; omega
        go_wp2_with fail
        go_ret
        exact ⟨true, rfl, fun _ => ⟨HK.out, h1, h2⟩, hbw⟩
      · have h2d : decide ((t.size : Int) ≤ 30) = false := by simp; omega
        go_wp2_with fail
        go_ret
        exact ⟨false, rfl, by simp, hbw⟩
    · have h1d : decide ((s.size : Int) ≤ 100) = false := by simp; omega
      go_wp2_with fail
      go_ret
      exact ⟨false, rfl, by simp, hbw⟩
end Go.Proofs.Ythpdfgfefmoaaaa
