/- awake returns true. -/
import Derived.Test.YtocihnncfpmbnaaRebase
import Derived.Test.YtocihnncfpmbnaaInvert
import Derived.Test.YtocihnncfpmbnaaCompose
import Derived.Test.YtocihnncfpmbnaaSize
namespace Go.Proofs.Ytocihnncfpmbnaa
open Go.RowKit

local notation "exS" => (ByteArray.mk #[97, 98, 99, 100, 101, 102])
theorem ba_eq {s t : ByteArray} (h : s.data.toList = t.data.toList) : s = t := ByteArray.ext (Array.toList_inj.1 h)
theorem ex1 : apT exS ⟨2, 3, ⟨#[88]⟩⟩ = ⟨#[97, 98, 88, 102]⟩ := ba_eq (by decide +kernel)
theorem ex1f : apF exS ⟨2, 3, ⟨#[88]⟩⟩ = 0 := by decide +kernel
theorem ex2 : inv exS ⟨2, 3, ⟨#[88]⟩⟩ = ⟨2, 1, ⟨#[99, 100, 101]⟩⟩ := by
  have h1 : (inv exS ⟨2, 3, ⟨#[88]⟩⟩).pos = 2 := by decide +kernel
  have h2 : (inv exS ⟨2, 3, ⟨#[88]⟩⟩).del = 1 := by decide +kernel
  have h3 : (inv exS ⟨2, 3, ⟨#[88]⟩⟩).ins = ⟨#[99, 100, 101]⟩ := ba_eq (by decide +kernel)
  generalize inv exS ⟨2, 3, ⟨#[88]⟩⟩ = e at *
  obtain ⟨p, d, t⟩ := e
  simp only at h1 h2 h3
  subst h1; subst h2; subst h3
  rfl
def exL : List Ed := [⟨1, 1, ⟨#[88, 89]⟩⟩, ⟨4, 1, ⟨#[]⟩⟩]
theorem ex3f : (apAll exS exL).2 = 0 := by decide +kernel
theorem ex3 : compE exS exL = ⟨1, 3, ⟨#[88, 89, 99]⟩⟩ := by
  have h1 : (compE exS exL).pos = 1 := by decide +kernel
  have h2 : (compE exS exL).del = 3 := by decide +kernel
  have h3 : (compE exS exL).ins = ⟨#[88, 89, 99]⟩ := ba_eq (by decide +kernel)
  generalize compE exS exL = e at *
  obtain ⟨p, d, t⟩ := e
  simp only at h1 h2 h3
  subst h1; subst h2; subst h3
  rfl
theorem ex4 : rebE ⟨3, 1, ⟨#[122]⟩⟩ ⟨0, 2, ⟨#[112, 113, 114]⟩⟩ = ⟨4, 1, ⟨#[122]⟩⟩ := by
  have h1 : (rebE ⟨3, 1, ⟨#[122]⟩⟩ ⟨0, 2, ⟨#[112, 113, 114]⟩⟩).pos = 4 := by decide +kernel
  have h2 : (rebE ⟨3, 1, ⟨#[122]⟩⟩ ⟨0, 2, ⟨#[112, 113, 114]⟩⟩).del = 1 := by decide +kernel
  have h3 : (rebE ⟨3, 1, ⟨#[122]⟩⟩ ⟨0, 2, ⟨#[112, 113, 114]⟩⟩).ins = ⟨#[122]⟩ := ba_eq (by decide +kernel)
  generalize rebE ⟨3, 1, ⟨#[122]⟩⟩ ⟨0, 2, ⟨#[112, 113, 114]⟩⟩ = e at *
  obtain ⟨p, d, t⟩ := e
  simp only at h1 h2 h3
  subst h1; subst h2; subst h3
  rfl
theorem ex4f : rebO ⟨3, 1, ⟨#[122]⟩⟩ ⟨0, 2, ⟨#[112, 113, 114]⟩⟩ = true := by decide +kernel
theorem ex1_list : ((ByteArray.mk #[97, 98, 88, 102]).toList == [97, 98, 88, 102]) = true := by rw [ByteArray.toList_eq]; decide
theorem Ed.eqb_self (a b : Int) (t : ByteArray) : Ed.eqb ⟨a, b, t⟩ ⟨a, b, t⟩ = true := by simp [Ed.eqb]

set_option maxRecDepth 100000 in
set_option maxHeartbeats 1000000 in
theorem awake_any (w : World) : Calls Try.prog 12 #[] w fun e w' => e = .returned (.bool true) ∧ Below w.heap.size w w' := by
  go_enter Try.func12, Try.ntmps12
  go_wp2_with fail
  refine (apply_any exS 2 3 ⟨#[88]⟩ _ (by decide)).mono ?_
  rw [ex1, ex1f]
  rintro e w1 ⟨rfl, hb1⟩
  go_wp2_with fail
  refine (invert_any exS 2 3 ⟨#[88]⟩ _ (by decide) (by decide)).mono ?_
  rw [ex2, ex1f]
  rintro e w2 ⟨rfl, hb2⟩
  go_wp2_with fail
  have hb02 := hb1.trans (hb2.mono hb1.size)
  have K2 := Blk.new' w2 23 #[.int .i64 2, .int .i64 1, .string ⟨#[99, 100, 101]⟩] rfl
  have hs2 := hb02.size
  refine (compose_any exS (some ⟨w2.heap.size + 1, 0, none⟩) 2 2 (w2.heap.size + 1 + 1) exL _ (Reads.of_blk (Blk.new' _ 23 (eds exL).toArray (by simp)) (by omega) rfl rfl) (by simp) (by omega) (by unfold maxLen; omega) (by decide +kernel)).mono ?_
  rw [ex3, ex3f]
  rintro e w3 ⟨rfl, hb3⟩
  have K2' := (K2.alloc (.cells (eds exL).toArray 23)).below hb3 (by simp; omega)
  have hb03 : Below w.heap.size w w3 := ((hb02.alloc hs2 _).alloc (by simp; omega) _).trans (hb3.mono (by simp; omega))
  have hs3 := hb3.size
  simp only [World.size_alloc] at hs3
  clear hb1 hb2 hb3 K2 hb02
  go_wp2_with fail
  refine (rebase_any 3 1 0 2 ⟨#[122]⟩ ⟨#[112, 113, 114]⟩ _ (by decide)).mono ?_
  rw [ex4, ex4f]
  rintro e w4 ⟨rfl, hb4⟩
  have K3 := (Blk.new' w3 23 #[.int .i64 1, .int .i64 3, .string ⟨#[88, 89, 99]⟩] rfl).below hb4 (by simp) |>.alloc (.cells #[.int .i64 4, .int .i64 1, .string ⟨#[122]⟩] 23)
  have K2 := (K2'.alloc (.cells #[.int .i64 1, .int .i64 3, .string ⟨#[88, 89, 99]⟩] 23)).below hb4 (by simp; omega) |>.alloc (.cells #[.int .i64 4, .int .i64 1, .string ⟨#[122]⟩] 23)
  have hs4 := hb4.size
  have hb04 : Below w.heap.size w w4 := (hb03.alloc hb03.size _).trans (hb4.mono (by have := hb03.size; simp; omega))
  simp only [World.size_alloc] at hs4
  have a0 := K2.cell 0
  have a1 := K2.cell 1
  have a2 := K2.cell 2
  have b0 := K3.cell 0
  have b1 := K3.cell 1
  have b2 := K3.cell 2
  simp at a0 a1 a2 b0 b1 b2
  clear hb4 K2' K2 K3
  have E := run_eql_ed
  have ES := Ed.eqb_self
  have L := ex1_list
  go_wp2_with fail
  go_ret
  exact ⟨rfl, hb04.alloc hb04.size _⟩
end Go.Proofs.Ytocihnncfpmbnaa
