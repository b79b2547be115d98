/- The law of monotony. -/
import Derived.Test.YthakcefgbggkcaaDoorChPair
import Derived.Deep.DeepCutAuto
import Derived.BigQuiet
namespace Go.Proofs.YthakcefgbggkcaaDoor
open Go.RowKit

/-- What the law of monotony holds in memory. -/
structure MS (w0 w : World) (bn ga gb : Nat) (k1 k2 k3 ka kb : Array Value) : Prop where
  k1 : Blk w bn 24 k1
  k2 : Blk w (bn + 1) 28 k2
  k3 : Blk w (bn + 1 + 1) 56 k3
  ka : Blk w ga 24 ka
  kb : Blk w gb 28 kb
  lt : ga ≠ gb ∧ bn + 1 + 1 < ga ∧ bn + 1 + 1 < gb
  below : Below bn w0 w
theorem blk_step {w w' : World} {g : Nat} {t : TypeId} {cs : Array Value} (h : Blk w g t cs) (hb : Below w.heap.size w w') : Blk w' g t cs := h.below hb h.lt
theorem MS.next {w0 w w' : World} {bn ga gb : Nat} {k1 k2 k3 ka kb : Array Value} (h : MS w0 w bn ga gb k1 k2 k3 ka kb) (hb : Below w.heap.size w w') : MS w0 w' bn ga gb k1 k2 k3 ka kb :=
  ⟨h.k1.below hb h.k1.lt, h.k2.below hb h.k2.lt, h.k3.below hb h.k3.lt, h.ka.below hb h.ka.lt, h.kb.below hb h.kb.lt, h.lt, h.below.trans (hb.mono (by have := h.k1.lt; omega))⟩
theorem MS.far {w0 w : World} {bn ga gb : Nat} {k1 k2 k3 ka kb : Array Value} (h : MS w0 w bn ga gb k1 k2 k3 ka kb) {p : Addr} (h1 : ga < p.block) (h2 : gb < p.block) (u : Value) : MS w0 (w.setCell p u) bn ga gb k1 k2 k3 ka kb :=
  ⟨h.k1.far (by have := h.lt; omega) u, h.k2.far (by have := h.lt; omega) u, h.k3.far (by have := h.lt; omega) u, h.ka.far (by omega) u, h.kb.far (by omega) u, h.lt, h.below.setCell (by have := h.lt; omega) u⟩
theorem MS.setA {w0 w : World} {bn ga gb : Nat} {k1 k2 k3 kb : Array Value} {a0 a1 a2 a3 : Value} (h : MS w0 w bn ga gb k1 k2 k3 #[a0, a1, a2, a3] kb) (u : Value) : MS w0 (w.setCell ⟨ga, 3, none⟩ u) bn ga gb k1 k2 k3 #[a0, a1, a2, u] kb :=
  ⟨h.k1.far (p := ⟨ga, 3, none⟩) (by have := h.lt; show bn ≠ ga; omega) u, h.k2.far (p := ⟨ga, 3, none⟩) (by have := h.lt; show bn + 1 ≠ ga; omega) u, h.k3.far (p := ⟨ga, 3, none⟩) (by have := h.lt; show bn + 1 + 1 ≠ ga; omega) u, by have := h.ka.set_ 3 u; simpa using this, h.kb.far (p := ⟨ga, 3, none⟩) (by have := h.lt; show gb ≠ ga; omega) u, h.lt, h.below.setCell (p := ⟨ga, 3, none⟩) (by have := h.lt; show bn ≤ ga; omega) u⟩
theorem MS.setB {w0 w : World} {bn ga gb : Nat} {k1 k2 k3 ka : Array Value} {a0 a1 a2 : Value} (h : MS w0 w bn ga gb k1 k2 k3 ka #[a0, a1, a2]) (u : Value) : MS w0 (w.setCell ⟨gb, 1, none⟩ u) bn ga gb k1 k2 k3 ka #[a0, u, a2] :=
  ⟨h.k1.far (p := ⟨gb, 1, none⟩) (by have := h.lt; show bn ≠ gb; omega) u, h.k2.far (p := ⟨gb, 1, none⟩) (by have := h.lt; show bn + 1 ≠ gb; omega) u, h.k3.far (p := ⟨gb, 1, none⟩) (by have := h.lt; show bn + 1 + 1 ≠ gb; omega) u, h.ka.far (p := ⟨gb, 1, none⟩) (by have := h.lt; show ga ≠ gb; omega) u, by have := h.kb.set_ 1 u; simpa using this, h.lt, h.below.setCell (p := ⟨gb, 1, none⟩) (by have := h.lt; show bn ≤ gb; omega) u⟩
set_option maxRecDepth 100000 in
set_option maxHeartbeats 8000000 in
theorem lawMono_any (w : World) (T N st S : Int) (RA LA FA : Option Addr) (nR rc nL lc nf fc B : Nat) (R : List Rl) (L : List Ar) (fs : List Int) (x y : Nat) (hx : x < 256) (hy : y < 256) (hR : Reads w B 6 RA nR (rls R)) (hL : Reads w B 5 LA nL (ars L)) (hF : Reads w B 1 FA nf (ints fs)) (hB : B ≤ w.heap.size) (hg : NoneAt w) :
    Calls Tryd.prog 9 #[.agg #[.int .i64 T, .int .i64 N, .int .i64 st, .slice RA nR rc], .agg #[.int .i64 S, .slice LA nL lc, .slice FA nf fc], .agg #[.int .u8 (x : Nat), .int .u8 (y : Nat)]] w fun e w' => e = .returned (.bool true) ∧ Below w.heap.size w w' := by
  obtain ⟨W, hW⟩ : ∃ W, ((w.alloc (.cells #[.int .i64 T, .int .i64 N, .int .i64 st, .slice RA nR rc] 24)).alloc (.cells #[.int .i64 S, .slice LA nL lc, .slice FA nf fc] 28)).alloc (.cells #[.int .u8 (x : Nat), .int .u8 (y : Nat)] 56) = W := ⟨_, rfl⟩
  obtain ⟨bn, hbn⟩ : ∃ bn, w.heap.size = bn := ⟨_, rfl⟩
  have K1 : Blk W bn 24 #[.int .i64 T, .int .i64 N, .int .i64 st, .slice RA nR rc] := by rw [← hW]; exact ((Blk.new' _ _ _ hbn).alloc _).alloc _
  have K2 : Blk W (bn + 1) 28 #[.int .i64 S, .slice LA nL lc, .slice FA nf fc] := by rw [← hW]; exact (Blk.new' _ _ _ (by simp; omega)).alloc _
  have K3 : Blk W (bn + 1 + 1) 56 #[.int .u8 (x : Nat), .int .u8 (y : Nat)] := by rw [← hW]; exact Blk.new' _ _ _ (by simp; omega)
  have hBW : Below bn w W := by rw [← hW]; exact (((Below.refl _ _).alloc (by omega) _).alloc (by simp; omega) _).alloc (by simp; omega) _
  have n0 := K1.cell 0
  have n1 := K1.cell 1
  have n2 := K1.cell 2
  have n3 := K1.cell 3
  have l0 := K2.cell 0
  have l1 := K2.cell 1
  have l2 := K2.cell 2
  simp at n0 n1 n2 n3 l0 l1 l2
  have HK1 := Lib.hid K1
  have HK2 := Lib.hid K2
  have HK3 := Lib.hid K3
  have HBW := Lib.hid hBW
  have HW := Lib.hid hW
  have HBN := Lib.hid hbn
  have hnR := hR.len_rls
  have hnL := hL.len_ars
  have HRL := Lib.hid hnR
  have HLL := Lib.hid hnL
  have HR := Lib.hid (hR.more (show B ≤ bn by omega))
  have HL := Lib.hid (hL.more (show B ≤ bn by omega))
  have HF := Lib.hid (hF.more (show B ≤ bn by omega))
  have HG := Lib.hid (hg.below hBW (by rw [← hbn]; exact hg.lt))
  have HG0 : Hid (∀ w9, Below bn w w9 → NoneAt w9) := fun w9 h => hg.below h (by rw [← hbn]; exact hg.lt)
  have HMAY := Lib.hid (may_any W T N st S RA LA FA nR rc nL lc nf fc bn R L fs (HR.out.below hBW) (HL.out.below hBW) (HF.out.below hBW) (by have := hBW.size; omega))
  clear hW hBW K1 K2 K3 hR hL hF hB hnR hnL hg
  go_enter Tryd.func9, Tryd.ntmps9
  go_upto_region 1 with fail
  try rw [hbn]
  rw [HW.out]
  go_wp2_with fail
  refine HMAY.out.mono ?_
  rintro e w1 ⟨b, rfl, hmay, hb1⟩
  have HM := Lib.hid hmay
  have HA1 := Lib.hid (HK1.out.below hb1 HK1.out.lt)
  have HA2 := Lib.hid (HK2.out.below hb1 HK2.out.lt)
  have HA3 := Lib.hid (HK3.out.below hb1 HK3.out.lt)
  have HG1 : Hid (NoneAt w1) := HG.out.next hb1
  have HX1 : Hid (Below bn w w1) := HBW.out.trans (hb1.mono (by have := HBW.out.size; omega))
  clear n0 n1 n2 n3 l0 l1 l2 hb1 hmay HMAY
  cases b with
  | false =>
    have HAW := Lib.hid (awake_any w1 HG1.out)
    go_wp2_with fail
    refine HAW.out.mono ?_
    rintro e w2 ⟨rfl, hb2⟩
    have HX2 : Hid (Below bn w w2) := HX1.out.trans (hb2.mono (by have := HX1.out.size; omega))
    clear hb2
    go_wp2_with fail
    go_ret
    exact ⟨rfl, by rw [HBN.out]; exact HX2.out⟩
  | true =>
    have hok := (by first | exact HM.out rfl | exact HM.out trivial | exact HM.out : MayOk T N st S R L fs)
    obtain ⟨N', rfl⟩ := Int.eq_ofNat_of_zero_le (show 0 ≤ N by have := hok.nm.hN; omega)
    obtain ⟨S', rfl⟩ := Int.eq_ofNat_of_zero_le (show 0 ≤ S by have := hok.la.hS; omega)
    have hN0 : 0 < N' := by have := hok.nm.hN; omega
    have hN1 : N' ≤ 10 := by have := hok.hN; omega
    have hS1 : S' ≤ 9 := by have := hok.hS; omega
    have hrl := hok.nm.rl
    have hla := hok.la.ars
    rw [Int.toNat_natCast] at hrl hla
    have hnR := hok.hR
    have hnL := hok.hL
    rw [HRL.out] at hnR
    rw [HLL.out] at hnL
    have hsz : bn ≤ w1.heap.size := by have := HX1.out.size; omega
    have hS0 : 0 < S' := by have := hok.la.hS; omega
    have a1 := HA1.out.cell 0
    have a2 := HA1.out.cell 1
    have a3 := HA1.out.cell 2
    have a4 := HA1.out.cell 3
    have a5 := HA2.out.cell 0
    have a6 := HA2.out.cell 1
    have a7 := HA2.out.cell 2
    simp at a1 a2 a3 a4 a5 a6 a7
    have HRO := Lib.hid hrl
    have HLO := Lib.hid hla
    have HSB := Lib.hid (And.intro hN0 (And.intro hN1 (And.intro hS1 (And.intro hnR (And.intro hnL hS0)))))
    have HSZ := Lib.hid hsz
    clear hok hrl hla HM
    by_cases hR0 : nR = 0
    · have d0 : ((nR : Int) == 0) = true := by simp; omega
      have d0' : (nR == 0) = true := by simp [hR0]
      have HAW := Lib.hid (awake_any w1 HG1.out)
      clear hR0
      go_wp2_with fail
      refine HAW.out.mono ?_
      rintro e w2 ⟨rfl, hb2⟩
      have HX2 : Hid (Below bn w w2) := HX1.out.trans (hb2.mono HSZ.out)
      clear hb2
      go_wp2_with fail
      go_ret
      exact ⟨rfl, by rw [HBN.out]; exact HX2.out⟩
    have d0 : ((nR : Int) == 0) = false := by simp; omega
    have d0' : (nR == 0) = false := by simp; omega
    obtain ⟨i, hi⟩ : ∃ i, x % nR = i := ⟨_, rfl⟩
    have hiR : i < nR := by rw [← hi]; exact Nat.mod_lt _ (by omega)
    have HIR := Lib.hid hiR
    have H9 : Hid (∀ w9, Below w1.heap.size w1 w9 → w9.cell? ⟨bn, 0, none⟩ = some (.int .i64 T) ∧ w9.cell? ⟨bn, 1, none⟩ = some (.int .i64 N') ∧ w9.cell? ⟨bn, 2, none⟩ = some (.int .i64 st) ∧ w9.cell? ⟨bn, 3, none⟩ = some (.slice RA nR rc) ∧ w9.cell? ⟨bn + 1, 0, none⟩ = some (.int .i64 S') ∧ w9.cell? ⟨bn + 1, 1, none⟩ = some (.slice LA nL lc) ∧ w9.cell? ⟨bn + 1, 2, none⟩ = some (.slice FA nf fc)) := fun w9 h => by
      have K := HA1.out.below h HA1.out.lt
      have K' := HA2.out.below h HA2.out.lt
      exact ⟨K.cell 0, K.cell 1, K.cell 2, K.cell 3, K'.cell 0, K'.cell 1, K'.cell 2⟩
    go_upto_region 3 with fail
    clear a1 a2 a3 a4 a5 a6 a7
    go_cut [7, 8] (fun x7 x8 wx => ∃ ga gb : Nat, x7 = .pointer (some ⟨ga, 0, none⟩) ∧ x8 = .pointer (some ⟨gb, 0, none⟩) ∧ Blk wx ga 24 #[.int .i64 T, .int .i64 N', .int .i64 st, .slice RA nR rc] ∧ Blk wx gb 28 #[.int .i64 S', .slice LA nL lc, .slice FA nf fc] ∧ Below w1.heap.size w1 wx ∧ ga ≠ gb ∧ w1.heap.size ≤ ga ∧ w1.heap.size ≤ gb)
    case first =>
      go_region_held3 (fun w9 => w9.cell? ⟨bn, 0, none⟩ = some (.int .i64 T) ∧ w9.cell? ⟨bn, 1, none⟩ = some (.int .i64 N') ∧ w9.cell? ⟨bn, 2, none⟩ = some (.int .i64 st) ∧ w9.cell? ⟨bn, 3, none⟩ = some (.slice RA nR rc) ∧ w9.cell? ⟨bn + 1, 0, none⟩ = some (.int .i64 S') ∧ w9.cell? ⟨bn + 1, 1, none⟩ = some (.slice LA nL lc) ∧ w9.cell? ⟨bn + 1, 2, none⟩ = some (.slice FA nf fc))
        ((refine H9.out _ ?_; repeat (first | exact Below.refl _ _ | refine Below.drew ?_ | refine Below.alloc ?_ (by simp) _ | refine Below.setCell ?_ (by simp) _))) (fail)
      all_goals
        go_wp2_with fail
        go_meet
        first
          | exact ⟨_, _, rfl, rfl, (Blk.new' w1 _ _ rfl).alloc _, Blk.new' (w1.alloc _) _ _ (by simp), (((Below.refl _ _).alloc (Nat.le_refl _) _).alloc (by simp) _).drew, by simp, by simp, by simp⟩
          | exact ⟨_, _, rfl, rfl, Blk.new' (w1.alloc _) _ _ (by simp), (Blk.new' w1 _ _ rfl).alloc _, (((Below.refl _ _).alloc (Nat.le_refl _) _).alloc (by simp) _).drew, by simp, by simp, by simp⟩
    case rest =>
      obtain ⟨ga, gb, rfl, rfl, ka, kb, hx3, hne, hga, hgb⟩ := hcut
      rename World => w3
      have HA3' := Lib.hid (HA3.out.below hx3 HA3.out.lt)
      have HA13 := Lib.hid (HA1.out.below hx3 HA1.out.lt)
      have HA23 := Lib.hid (HA2.out.below hx3 HA2.out.lt)
      have HX3 : Hid (Below bn w w3) := HX1.out.trans (hx3.mono HSZ.out)
      have HKA := Lib.hid ka
      have HKB := Lib.hid kb
      have HGG : Hid (ga ≠ gb ∧ bn + 1 + 1 < ga ∧ bn + 1 + 1 < gb) := ⟨hne, by have := HA3.out.lt; omega, by have := HA3.out.lt; omega⟩
      have HS3 : Hid (bn ≤ w3.heap.size) := Nat.le_trans HSZ.out hx3.size
      have hgal := ka.lt
      have hgbl := kb.lt
      clear ka kb hx3 hne hga hgb H9
      obtain ⟨i0, hi0, hz0, hz1, hz2⟩ := info_parts infoRl
      have HO0 : Hid ((w3.alloc (.cells #[] 65)).ownsRow w3.heap.size 65 6 (.slice (some ⟨w3.heap.size, 0, none⟩) 0 0) 0 []) :=
        ⟨rfl, .inr ⟨w3.heap.size, 0, #[], rfl, Nat.le_refl _, Blk.new w3 _ _, Nat.le_refl _, by unfold maxLen; omega, rfl, rfl⟩⟩
      have n3 : (w3.alloc (.cells #[] 65)).cell? ⟨bn, 3, none⟩ = some (.slice RA nR rc) := (HA13.out.alloc _).cell 3
      have HREa : Hid (Reads (w3.alloc (.cells #[] 65)) w3.heap.size 6 RA nR (rls R)) := ((HR.out.below HX3.out).more HS3.out).below ((Below.refl w3.heap.size w3).alloc (Nat.le_refl _) (.cells #[] 65))
      have HEO : Hid (∀ u ∈ rls R, u.oneCell' = true) := fun u hu => rls_one hu
      have hzb : w3.heap.size ≤ (w3.alloc (.cells #[] 65)).heap.size := by simp
      go_upto_region 5 with (at_builtin; go_must (refine wpList_append_any _ (by rfl) _ _ 22 (by rfl) w3.heap.size 65 i0 (.agg #[.int .i64 0, .int .i64 0, .int .i64 0, .int .i64 0, .int .i64 0, .int .i64 0]) 6 48 Tryd.underlying22 hi0 hz0 hz1 hz2 rfl (by decide) (.slice (some ⟨w3.heap.size, 0, none⟩) 0 0) 0 [] (by rfl) HO0.out w3.heap.size RA nR rc (rls R) (by rfl) HREa.out HEO.out (by unfold maxLen; omega) (by omega) hzb ?_; intro v6 w6 hown6 hgrow6 hat6; obtain ⟨A6, cA, rfl, hc6, _⟩ := own_form hown6; simp only [Nat.zero_add, List.nil_append] at hown6; simp only [Nat.zero_add]; have HOW6 := Lib.hid hown6; have hx6 : Below w3.heap.size w3 w6 := ((Below.refl _ w3).alloc (Nat.le_refl _) _).grown hgrow6 (by simp) (fun k hk => (by have h2 : w3.heap.size = k := (by simpa [Value.ownBlock] using hk); omega)); have HX6 := Lib.hid hx6; have KQ6 := Lib.hid (HKA.out.below hx6 hgal); have e2 := KQ6.out.cell 3; simp at e2; have zz2 := KQ6.out.frozen 3; clear hown6 hgrow6 hat6 hc6 hx6 n3))
      obtain ⟨gr, cA', hA6, hgr, hgrl, hcap⟩ := orow_form HOW6.out (by omega)
      injection hA6 with h1 h2 h3
      subst h1 h3
      obtain ⟨k1, hk1⟩ : ∃ k1 : Array Value, #[.int .i64 T, .int .i64 N', .int .i64 st, .slice RA nR rc] = k1 := ⟨_, rfl⟩
      obtain ⟨k2, hk2⟩ : ∃ k2 : Array Value, #[.int .i64 S', .slice LA nL lc, .slice FA nf fc] = k2 := ⟨_, rfl⟩
      obtain ⟨k3, hk3⟩ : ∃ k3 : Array Value, #[.int .u8 (x : Nat), .int .u8 (y : Nat)] = k3 := ⟨_, rfl⟩
      have HK := Lib.hid (And.intro hk1 (And.intro hk2 hk3))
      obtain ⟨w7, hw7⟩ : ∃ w7, w6.setCell ⟨ga, 3, none⟩ (.slice (some ⟨gr, 0, none⟩) nR cA) = w7 := ⟨_, rfl⟩
      have HM7 : Hid (MS w w7 bn ga gb k1 k2 k3 #[.int .i64 T, .int .i64 N', .int .i64 st, .slice (some ⟨gr, 0, none⟩) nR cA] #[.int .i64 S', .slice LA nL lc, .slice FA nf fc]) := by
        rw [← hw7, ← hk1, ← hk2, ← hk3]
        have h6 : MS w w6 bn ga gb #[.int .i64 T, .int .i64 N', .int .i64 st, .slice RA nR rc] #[.int .i64 S', .slice LA nL lc, .slice FA nf fc] #[.int .u8 (x : Nat), .int .u8 (y : Nat)] #[.int .i64 T, .int .i64 N', .int .i64 st, .slice RA nR rc] #[.int .i64 S', .slice LA nL lc, .slice FA nf fc] :=
          ⟨HA13.out.below HX6.out HA13.out.lt, HA23.out.below HX6.out HA23.out.lt, HA3'.out.below HX6.out HA3'.out.lt, HKA.out.below HX6.out hgal, HKB.out.below HX6.out hgbl, HGG.out, HX3.out.trans (HX6.out.mono HS3.out)⟩
        exact h6.setA _
      have hgab : ga < gr ∧ gb < gr := ⟨by omega, by omega⟩
      have HGR := Lib.hid hgab
      have HO7 : Hid (w7.ownsRow w3.heap.size 65 6 (.slice (some ⟨gr, 0, none⟩) nR cA) nR (rls R)) := by rw [← hw7]; exact orow_far HOW6.out (p := ⟨ga, 3, none⟩) (by show gr ≠ ga; omega) _
      have HGRL : Hid (gr < w7.heap.size) := (HO7.out.lt gr rfl).2
      obtain ⟨r, hr⟩ : ∃ r, R[i]? = some r := ⟨_, List.getElem?_eq_getElem (by rw [HRL.out]; exact HIR.out)⟩
      have hrok := HRO.out r (List.mem_of_getElem? hr)
      have hrp := hrok.p
      have HRI := Lib.hid hr
      have q4 : w7.cell? ⟨gr, i * 6 + 4, none⟩ = some (.int .i64 r.p) := orow_cell HO7.out (by omega) (by
        have h := Go.Proofs.YthakcefgbggkcaaDoor.flat_at (f := Rl.cells) (n := 6) (fun _ => rfl) R i r 4 hr (by decide)
        exact h)
      have zq : w7.frozen? ⟨gr, i * 6 + 4, none⟩ = false := orow_frozen HO7.out _
      have m3 := HM7.out.ka.cell 3
      simp at m3
      have b0 : w7.cell? ⟨bn + 1 + 1, 0, none⟩ = some (.int .u8 (x : Nat)) := by have := HM7.out.k3.cell 0; rw [← HK.out.2.2] at this; simpa using this
      rw [hw7]
      have v1 : (x : Int).tmod (nR : Int) = (i : Int) := by rw [Int.tmod_eq_emod_of_nonneg (by omega), ← hi]; omega
      have v2 : (x : Int) % (nR : Int) = (i : Int) := by rw [← hi]; omega
      have ux : IntKind.i64.wrap (x : Int) = (x : Int) := IntWalk.i64_in _ (by omega)
      have ui : IntKind.i64.wrap (i : Int) = (i : Int) := IntWalk.i64_in _ (by omega)
      have z1 : ((nR : Int) == 0) = false := by simp; omega
      have z2 : ¬ (nR : Int) = 0 := by omega
      have z3 : ¬ nR = 0 := by omega
      clear hw7 hi hgr hgrl hgab hr hrok hk1 hk2 hk3 e2 zz2 hzb hi0 hz0 hz1 hz2 HO0 HREa HEO HOW6 HX6 KQ6 hgal hgbl
      go_upto_region 6 with fail
      clear v1 v2 ux ui z1 z2 z3 b0
      have up : IntKind.i64.wrap (r.p + 3) = r.p + 3 := IntWalk.i64_in _ (by omega)
      have hiI : (i : Int) < (nR : Int) := by omega
      have hi0 : (0 : Int) ≤ (i : Int) := by omega
      go_region
      obtain ⟨p', hp'⟩ : ∃ p', min (r.p + 3) 1000 = p' := ⟨_, rfl⟩
      have hpb : r.p ≤ p' ∧ 0 ≤ p' ∧ p' ≤ 1000 := by omega
      rw [hp']
      obtain ⟨w8, hw8⟩ : ∃ w8, (w7.setCell ⟨gr, i * 6 + 4, none⟩ (.int .i64 p')).drew = w8 := ⟨_, rfl⟩
      have HM8 : Hid (MS w w8 bn ga gb k1 k2 k3 #[.int .i64 T, .int .i64 N', .int .i64 st, .slice (some ⟨gr, 0, none⟩) nR cA] #[.int .i64 S', .slice LA nL lc, .slice FA nf fc]) := by
        rw [← hw8]
        exact (HM7.out.far (p := ⟨gr, i * 6 + 4, none⟩) HGR.out.1 HGR.out.2 _).next (Below.refl _ _).drew
      have HO8 : Hid (w8.ownsRow w3.heap.size 65 6 (.slice (some ⟨gr, 0, none⟩) nR cA) nR (rls (R.set i { r with p := p' }))) := by
        rw [← hw8, ← rls_price R i r p' HRI.out]
        exact own_setCell HO7.out (i * 6 + 4) (.int .i64 p') (by omega)
      have HRO2 := Lib.hid (rls_ok HRO.out HRI.out hpb.2)
      have HL8 : Hid (Reads w8 w8.heap.size 5 LA nL (ars L)) := (HL.out.below HM8.out.below).more (by have := HM8.out.k1.lt; omega)
      have hsz8 : bn ≤ w8.heap.size := by have := HM8.out.k1.lt; omega
      have HPB := Lib.hid hpb.1
      have HGR8 := Lib.hid (HO8.out.lt gr rfl).2
      have l1 : w8.cell? ⟨bn + 1, 1, none⟩ = some (.slice LA nL lc) := by have := HM8.out.k2.cell 1; rw [← HK.out.2.1] at this; simpa using this
      rw [hw8]
      clear hw8 hp' hpb up hiI hi0 q4 zq m3
      go_upto_if 55 with fail
      go_cut [] (fun wx => ∃ (KA : Option Addr) (kc : Nat) (L2 : List Ar), MS w wx bn ga gb k1 k2 k3 #[.int .i64 T, .int .i64 N', .int .i64 st, .slice (some ⟨gr, 0, none⟩) nR cA] #[.int .i64 S', .slice KA nL kc, .slice FA nf fc] ∧ Reads wx wx.heap.size 6 (some ⟨gr, 0, none⟩) nR (rls (R.set i { r with p := p' })) ∧ Reads wx wx.heap.size 5 KA nL (ars L2) ∧ Dear R (R.set i { r with p := p' }) L L2 ∧ ArsOk S' L2)
      case first =>
       by_cases hL0 : 0 < nL
       case neg =>
        have e0 : decide ((0 : Int) < (nL : Int)) = false := by simp; omega
        have e0' : decide (0 < nL) = false := by simp; omega
        have HDR : Hid (Dear R (R.set i { r with p := p' }) L L) := Dear.of HRI.out HPB.out rfl ars_same
        have HMv := HM8
        have HRw : Hid (Reads w8 w8.heap.size 6 (some ⟨gr, 0, none⟩) nR (rls (R.set i { r with p := p' }))) := Reads.of_own HO8.out
        have HLw := HL8
        have HLO2 := HLO
        go_wp2_with fail
        go_meet
        exact ⟨LA, lc, L, HMv.out, HRw.out, HLw.out, HDR.out, HLO2.out⟩
       case pos =>
        have e0 : decide ((0 : Int) < (nL : Int)) = true := by simp; omega
        have e0' : decide (0 < nL) = true := by simp [hL0]
        obtain ⟨j, hj⟩ : ∃ j, y % nL = j := ⟨_, rfl⟩
        have hjL : j < nL := by rw [← hj]; exact Nat.mod_lt _ hL0
        have HJL := Lib.hid hjL
        obtain ⟨i1, hi1, hy0, hy1, hy2⟩ := info_parts infoAr
        have HO0 : Hid ((w8.alloc (.cells #[] 68)).ownsRow w8.heap.size 68 5 (.slice (some ⟨w8.heap.size, 0, none⟩) 0 0) 0 []) :=
          ⟨rfl, .inr ⟨w8.heap.size, 0, #[], rfl, Nat.le_refl _, Blk.new w8 _ _, Nat.le_refl _, by unfold maxLen; omega, rfl, rfl⟩⟩
        have l1a : (w8.alloc (.cells #[] 68)).cell? ⟨bn + 1, 1, none⟩ = some (.slice LA nL lc) := cell_alloc l1 _
        have HREa : Hid (Reads (w8.alloc (.cells #[] 68)) w8.heap.size 5 LA nL (ars L)) := HL8.out.below ((Below.refl w8.heap.size w8).alloc (Nat.le_refl _) (.cells #[] 68))
        have HEO : Hid (∀ u ∈ ars L, u.oneCell' = true) := fun u hu => ars_one hu
        have hzb : w8.heap.size ≤ (w8.alloc (.cells #[] 68)).heap.size := by simp
        have HNL := Lib.hid (show nL ≤ 40 from HSB.out.2.2.2.2.1)
        go_upto_region 9 with (at_builtin; go_must (refine wpList_append_any _ (by rfl) _ _ 25 (by rfl) w8.heap.size 68 i1 (.agg #[.int .i64 0, .int .i64 0, .int .i64 0, .int .i64 0, .slice none 0 0]) 5 56 Tryd.underlying25 hi1 hy0 hy1 hy2 rfl (by decide) (.slice (some ⟨w8.heap.size, 0, none⟩) 0 0) 0 [] (by rfl) HO0.out w8.heap.size LA nL lc (ars L) (by rfl) HREa.out HEO.out (by have := HNL.out; unfold maxLen; omega) (by have := HNL.out; omega) hzb ?_; intro v6 w6 hown6 hgrow6 hat6; obtain ⟨A6, kA, rfl, hc6, _⟩ := own_form hown6; simp only [Nat.zero_add, List.nil_append] at hown6; simp only [Nat.zero_add]; have HOW6 := Lib.hid hown6; have hx6 : Below w8.heap.size w8 w6 := ((Below.refl _ w8).alloc (Nat.le_refl _) _).grown hgrow6 (by simp) (fun k hk => (by have h2 : w8.heap.size = k := (by simpa [Value.ownBlock] using hk); omega)); have HX6 := Lib.hid hx6; have KQ6 := Lib.hid (HM8.out.kb.below hx6 HM8.out.kb.lt); have e2 := KQ6.out.cell 1; simp at e2; have zz2 := KQ6.out.frozen 1; clear hown6 hgrow6 hat6 hc6 hx6 l1a l1))
        obtain ⟨gt, kA', hA6, hgt, hgtl, hcapk⟩ := orow_form HOW6.out hL0
        injection hA6 with h1 h2 h3
        subst h1 h3
        obtain ⟨w9, hw9⟩ : ∃ w9, w6.setCell ⟨gb, 1, none⟩ (.slice (some ⟨gt, 0, none⟩) nL kA) = w9 := ⟨_, rfl⟩
        have HM9 : Hid (MS w w9 bn ga gb k1 k2 k3 #[.int .i64 T, .int .i64 N', .int .i64 st, .slice (some ⟨gr, 0, none⟩) nR cA] #[.int .i64 S', .slice (some ⟨gt, 0, none⟩) nL kA, .slice FA nf fc]) := by
          rw [← hw9]
          exact (HM8.out.next HX6.out).setB _
        have hgba : ga < gt ∧ gb < gt ∧ gr < gt := ⟨by have := HM8.out.ka.lt; omega, by have := HM8.out.kb.lt; omega, by have := HGR8.out; omega⟩
        have HGT := Lib.hid hgba
        have HO9 : Hid (w9.ownsRow w8.heap.size 68 5 (.slice (some ⟨gt, 0, none⟩) nL kA) nL (ars L)) := by rw [← hw9]; exact orow_far HOW6.out (p := ⟨gb, 1, none⟩) (by show gt ≠ gb; omega) _
        have HP9 : Hid (w9.ownsRow w3.heap.size 65 6 (.slice (some ⟨gr, 0, none⟩) nR cA) nR (rls (R.set i { r with p := p' }))) := by rw [← hw9]; exact orow_far (own_below HO8.out HX6.out) (p := ⟨gb, 1, none⟩) (by have := HGR.out; show gr ≠ gb; omega) _
        obtain ⟨ar, har⟩ : ∃ ar, L[j]? = some ar := ⟨_, List.getElem?_eq_getElem (by rw [HLL.out]; exact HJL.out)⟩
        have haok := HLO.out.ok ar (List.mem_of_getElem? har)
        have HAI := Lib.hid har
        have q3 : w9.cell? ⟨gt, j * 5 + 3, none⟩ = some (.int .i64 ar.co) := orow_cell HO9.out hL0 (by
          have h := Go.Proofs.YthakcefgbggkcaaDoor.flat_at (f := Ar.cells) (n := 5) (fun _ => rfl) L j ar 3 har (by decide)
          exact h)
        have zq : w9.frozen? ⟨gt, j * 5 + 3, none⟩ = false := orow_frozen HO9.out _
        have m1 := HM9.out.kb.cell 1
        simp at m1
        have b1 : w9.cell? ⟨bn + 1 + 1, 1, none⟩ = some (.int .u8 (y : Nat)) := by have := HM9.out.k3.cell 1; rw [← HK.out.2.2] at this; simpa using this
        rw [hw9]
        have v1 : (y : Int).tmod (nL : Int) = (j : Int) := by rw [Int.tmod_eq_emod_of_nonneg (by omega), ← hj]; omega
        have v2 : (y : Int) % (nL : Int) = (j : Int) := by rw [← hj]; omega
        have uy : IntKind.i64.wrap (y : Int) = (y : Int) := IntWalk.i64_in _ (by omega)
        have uj : IntKind.i64.wrap (j : Int) = (j : Int) := IntWalk.i64_in _ (by have := HNL.out; omega)
        have z1 : ((nL : Int) == 0) = false := by simp; omega
        have z2 : ¬ (nL : Int) = 0 := by omega
        have z3 : ¬ nL = 0 := by omega
        clear hw9 hj hgt hgtl hgba har e2 zz2 hzb hi1 hy0 hy1 hy2 HO0 HREa HEO HOW6 HX6 KQ6 e0 e0'
        go_upto_region 10 with fail
        clear v1 v2 uy uj z1 z2 z3 b1
        have uc : IntKind.i64.wrap (ar.co + 2) = ar.co + 2 := IntWalk.i64_in _ (by omega)
        have hjI : (j : Int) < (nL : Int) := by omega
        have hj0 : (0 : Int) ≤ (j : Int) := by omega
        go_region
        obtain ⟨c', hc'⟩ : ∃ c', min (ar.co + 2) 1099511627775 = c' := ⟨_, rfl⟩
        have hcb : ar.co ≤ c' ∧ 0 ≤ c' ∧ c' < 1099511627776 := by omega
        rw [hc']
        obtain ⟨wv, hwv⟩ : ∃ wv, (w9.setCell ⟨gt, j * 5 + 3, none⟩ (.int .i64 c')).drew = wv := ⟨_, rfl⟩
        have HMv : Hid (MS w wv bn ga gb k1 k2 k3 #[.int .i64 T, .int .i64 N', .int .i64 st, .slice (some ⟨gr, 0, none⟩) nR cA] #[.int .i64 S', .slice (some ⟨gt, 0, none⟩) nL kA, .slice FA nf fc]) := by
          rw [← hwv]
          exact (HM9.out.far (p := ⟨gt, j * 5 + 3, none⟩) HGT.out.1 HGT.out.2.1 _).next (Below.refl _ _).drew
        have HRw : Hid (Reads wv wv.heap.size 6 (some ⟨gr, 0, none⟩) nR (rls (R.set i { r with p := p' }))) := by
          rw [← hwv]
          exact Reads.of_own (w := (w9.setCell ⟨gt, j * 5 + 3, none⟩ (.int .i64 c')).drew) (orow_far HP9.out (p := ⟨gt, j * 5 + 3, none⟩) (by have := HGT.out; show gr ≠ gt; omega) _)
        have HLw : Hid (Reads wv wv.heap.size 5 (some ⟨gt, 0, none⟩) nL (ars (L.set j { ar with co := c' }))) := by
          rw [← hwv, ← ars_cost L j ar c' HAI.out]
          exact Reads.of_own (w := (w9.setCell ⟨gt, j * 5 + 3, none⟩ (.int .i64 c')).drew) (own_setCell HO9.out (j * 5 + 3) (.int .i64 c') (by omega))
        have HDR : Hid (Dear R (R.set i { r with p := p' }) L (L.set j { ar with co := c' })) := Dear.of HRI.out HPB.out (by rw [List.length_set]) (ars_dear HAI.out hcb.1)
        have HLO2 := Lib.hid (ars_ok HLO.out HAI.out hcb.2)
        rw [hwv]
        clear hwv hc' hcb uc hjI hj0 q3 zq m1
        go_wp2_with fail
        go_meet
        exact ⟨some ⟨gt, 0, none⟩, kA, L.set j { ar with co := c' }, HMv.out, HRw.out, HLw.out, HDR.out, HLO2.out⟩
      case rest =>
        obtain ⟨KA, kc, L2, hmv, hrw, hlw, hdr, hlo2⟩ := hcut
        rename World => wv
        have HMv := Lib.hid hmv
        have HRw := Lib.hid hrw
        have HLw := Lib.hid hlw
        have HDR := Lib.hid hdr
        have HLO2 := Lib.hid hlo2
        clear hmv hrw hlw hdr hlo2 HM8 HO8 HL8 l1 hsz8 HGR8
        go_upto_region 11 with fail
        have hsb := HSB.out
        obtain ⟨nc, hnc⟩ : ∃ nc, tri S' S' * N' = nc := ⟨_, rfl⟩
        have hnc0 : 0 < nc := by
          have h4 := tri_ge S' S' (Nat.le_refl _)
          have h5 : 1 * 1 ≤ tri S' S' * N' := Nat.mul_le_mul (by omega) hsb.1
          omega
        have HNC := Lib.hid hnc
        have hszv : bn ≤ wv.heap.size := by have := HMv.out.k1.lt; omega
        have HB1 : Hid (∀ w9, Below wv.heap.size wv w9 → Calls Tryd.prog 14 #[.agg #[.int .i64 T, .int .i64 N', .int .i64 st, .slice RA nR rc], .agg #[.int .i64 S', .slice LA nL lc, .slice FA nf fc]] w9 fun e w' => ∃ A c cs, e = .returned (.agg #[.int .i64 N', .int .i64 S', .slice A nc c]) ∧ Reads w' w'.heap.size 4 A nc (cls cs) ∧ Chart R L N' S' cs ∧ Below w9.heap.size w9 w') := fun w9 h9 => by
          have hx9 : Below bn w w9 := HMv.out.below.trans (h9.mono hszv)
          have h1 := HR.out.below hx9
          have h2 := HL.out.below hx9
          have hl : R.length = nR := HRL.out
          have hl2 : L.length = nL := HLL.out
          rw [← hl] at h1 ⊢
          rw [← hl2] at h2 ⊢
          refine (build_any w9 T st N' S' rc lc nf fc bn RA LA FA R L h1 h2 (Nat.le_trans hszv h9.size) (HG0.out _ hx9) HRO.out HLO.out hsb.1 (by omega) (by omega) (by omega) (by omega)).mono ?_
          rintro e w' ⟨v, rfl, ⟨A, c, cs, rfl, hr, hch, _⟩, hb⟩
          rw [hnc] at hr ⊢
          exact ⟨A, c, cs, rfl, hr, hch, hb⟩
        have HB2 : Hid (∀ w9, Below wv.heap.size wv w9 → Calls Tryd.prog 14 #[.agg #[.int .i64 T, .int .i64 N', .int .i64 st, .slice (some ⟨gr, 0, none⟩) nR cA], .agg #[.int .i64 S', .slice KA nL kc, .slice FA nf fc]] w9 fun e w' => ∃ A c cs, e = .returned (.agg #[.int .i64 N', .int .i64 S', .slice A nc c]) ∧ Reads w' w'.heap.size 4 A nc (cls cs) ∧ Chart (R.set i { r with p := p' }) L2 N' S' cs ∧ Below w9.heap.size w9 w') := fun w9 h9 => by
          have hx9 : Below bn w w9 := HMv.out.below.trans (h9.mono hszv)
          have h1 := HRw.out.below h9
          have h2 := HLw.out.below h9
          have hl : (R.set i { r with p := p' }).length = nR := by rw [List.length_set]; exact HRL.out
          have hl2 : (L2).length = nL := HDR.out.len.trans HLL.out
          rw [← hl] at h1 ⊢
          rw [← hl2] at h2 ⊢
          refine (build_any w9 T st N' S' cA kc nf fc wv.heap.size (some ⟨gr, 0, none⟩) KA FA (R.set i { r with p := p' }) (L2) h1 h2 h9.size (HG0.out _ hx9) HRO2.out HLO2.out hsb.1 (by omega) (by omega) (by omega) (by omega)).mono ?_
          rintro e w' ⟨v, rfl, ⟨A, c, cs, rfl, hr, hch, _⟩, hb⟩
          rw [hnc] at hr ⊢
          exact ⟨A, c, cs, rfl, hr, hch, hb⟩
        have H9 : Hid (∀ w9, Below wv.heap.size wv w9 → w9.cell? ⟨bn, 0, none⟩ = some (.int .i64 T) ∧ w9.cell? ⟨bn, 1, none⟩ = some (.int .i64 N') ∧ w9.cell? ⟨bn, 2, none⟩ = some (.int .i64 st) ∧ w9.cell? ⟨bn, 3, none⟩ = some (.slice RA nR rc) ∧ w9.cell? ⟨bn + 1, 0, none⟩ = some (.int .i64 S') ∧ w9.cell? ⟨bn + 1, 1, none⟩ = some (.slice LA nL lc) ∧ w9.cell? ⟨bn + 1, 2, none⟩ = some (.slice FA nf fc) ∧ w9.cell? ⟨ga, 0, none⟩ = some (.int .i64 T) ∧ w9.cell? ⟨ga, 1, none⟩ = some (.int .i64 N') ∧ w9.cell? ⟨ga, 2, none⟩ = some (.int .i64 st) ∧ w9.cell? ⟨ga, 3, none⟩ = some (.slice (some ⟨gr, 0, none⟩) nR cA) ∧ w9.cell? ⟨gb, 0, none⟩ = some (.int .i64 S') ∧ w9.cell? ⟨gb, 1, none⟩ = some (.slice KA nL kc) ∧ w9.cell? ⟨gb, 2, none⟩ = some (.slice FA nf fc)) := fun w9 h => by
          have K := HMv.out.next h
          have b1 := K.k1
          have b2 := K.k2
          rw [← HK.out.1] at b1
          rw [← HK.out.2.1] at b2
          exact ⟨b1.cell 0, b1.cell 1, b1.cell 2, b1.cell 3, b2.cell 0, b2.cell 1, b2.cell 2, K.ka.cell 0, K.ka.cell 1, K.ka.cell 2, K.ka.cell 3, K.kb.cell 0, K.kb.cell 1, K.kb.cell 2⟩
        go_cut [11, 12] (fun x11 x12 wx => ∃ (pa pb : Nat) (A : Option Addr) (c : Nat) (cs : List Cl) (A' : Option Addr) (c' : Nat) (cs' : List Cl), x11 = .pointer (some ⟨pa, 0, none⟩) ∧ x12 = .pointer (some ⟨pb, 0, none⟩) ∧ Blk wx pa 34 #[.int .i64 N', .int .i64 S', .slice A nc c] ∧ Blk wx pb 34 #[.int .i64 N', .int .i64 S', .slice A' nc c'] ∧ Reads wx wx.heap.size 4 A nc (cls cs) ∧ Reads wx wx.heap.size 4 A' nc (cls cs') ∧ Chart R L N' S' cs ∧ Chart (R.set i { r with p := p' }) L2 N' S' cs' ∧ Below wv.heap.size wv wx)
        case first =>
          have hla9 := chPhi_lasts (R := R) (L := L) (N := N') (S := S') hnc0
          have hlb9 := chPhi_lasts (R := R.set i { r with p := p' }) (L := L2) (N := N') (S := S') hnc0
          have HLA := Lib.hid hla9
          have HLB := Lib.hid hlb9
          clear hla9 hlb9
          refine wp_region_steps (by kernel_rfl) (by kernel_rfl) (fun a0 => a0.tmps.size = 122 ∧ a0.eval (.tmp 3) = .pointer (some ⟨bn, 0, none⟩) ∧ a0.eval (.tmp 4) = .pointer (some ⟨bn + 1, 0, none⟩) ∧ a0.eval (.tmp 7) = .pointer (some ⟨ga, 0, none⟩) ∧ a0.eval (.tmp 8) = .pointer (some ⟨gb, 0, none⟩))
            (fun a0 d a w9 => Same a0 [81, 82, 83, 84, 85, 86, 11, 12] a ∧ TB wv w9 34 #[.int .i64 0, .int .i64 0, .slice none 0 0] (ChPhi nc R L N' S') (ChPhi nc (R.set i { r with p := p' }) L2 N' S') (d 2) (d 5) (d 6) (d 7) (d 8) (d 9) (a.eval (.tmp 83)) (a.eval (.tmp 86)) (a.eval (.tmp 11)) (a.eval (.tmp 12)) ∧ (d 0 = true → a.eval (.tmp 81) = .agg #[.int .i64 T, .int .i64 N', .int .i64 st, .slice RA nR rc]) ∧ (d 1 = true → a.eval (.tmp 82) = .agg #[.int .i64 S', .slice LA nL lc, .slice FA nf fc]) ∧ (d 3 = true → a.eval (.tmp 84) = .agg #[.int .i64 T, .int .i64 N', .int .i64 st, .slice (some ⟨gr, 0, none⟩) nR cA]) ∧ (d 4 = true → a.eval (.tmp 85) = .agg #[.int .i64 S', .slice KA nL kc, .slice FA nf fc]))
            ⟨rfl, rfl, rfl, rfl, rfl⟩ (fun a0 _ => ⟨Same.refl _ _, TB.start (Below.refl _ _).drew _ _ _ _, by simp, by simp, by simp, by simp⟩) ?_ ?_
          · intro a0 hF
            obtain ⟨hsz, f3, f4, f7, f8⟩ := hF
            refine ⟨?_, ?_, ?_, ?_, ?_, ?_, ?_, ?_, ?_, ?_, trivial⟩
            · intro d a w9 K hd hdep ⟨hsm, htb, h81, h82, h84, h85⟩ hK
              have hz : a.tmps.size = 122 := hsm.sz.trans hsz
              have hd0 : d 0 = false := hd
              have zz : 81 < a.tmps.size := by rw [hz]; decide
              rw [if_pos (by rfl)]
              have e1 := (hsm.ev 3 (by decide)).trans f3
              obtain ⟨q0, q1, q2, q3, q4, q5, q6, q7, q8, q9, q10, q11, q12, q13⟩ := H9.out w9 htb.bl
              simp only [Oper.wp, execOp, e1]
              go_simp
              show K (a.put (some 81) _) _
              refine hK.out _ _ ⟨hsm.put (by decide) _, ?_, fun _ => eval_put_same zz, fun h => (eval_put_ne (by decide)).trans (h82 h), fun h => (eval_put_ne (by decide)).trans (h84 h), fun h => (eval_put_ne (by decide)).trans (h85 h)⟩
              rw [eval_put_ne (a := a) (d := 81) (k := 83) (by decide), eval_put_ne (a := a) (d := 81) (k := 86) (by decide), eval_put_ne (a := a) (d := 81) (k := 11) (by decide), eval_put_ne (a := a) (d := 81) (k := 12) (by decide)]
              exact htb
            · intro d a w9 K hd hdep ⟨hsm, htb, h81, h82, h84, h85⟩ hK
              have hz : a.tmps.size = 122 := hsm.sz.trans hsz
              have hd1 : d 1 = false := hd
              have zz : 82 < a.tmps.size := by rw [hz]; decide
              rw [if_pos (by rfl)]
              have e1 := (hsm.ev 4 (by decide)).trans f4
              obtain ⟨q0, q1, q2, q3, q4, q5, q6, q7, q8, q9, q10, q11, q12, q13⟩ := H9.out w9 htb.bl
              simp only [Oper.wp, execOp, e1]
              go_simp
              show K (a.put (some 82) _) _
              refine hK.out _ _ ⟨hsm.put (by decide) _, ?_, fun h => (eval_put_ne (by decide)).trans (h81 h), fun _ => eval_put_same zz, fun h => (eval_put_ne (by decide)).trans (h84 h), fun h => (eval_put_ne (by decide)).trans (h85 h)⟩
              rw [eval_put_ne (a := a) (d := 82) (k := 83) (by decide), eval_put_ne (a := a) (d := 82) (k := 86) (by decide), eval_put_ne (a := a) (d := 82) (k := 11) (by decide), eval_put_ne (a := a) (d := 82) (k := 12) (by decide)]
              exact htb
            · intro d a w9 K hd hdep ⟨hsm, htb, h81, h82, h84, h85⟩ hK
              have hz : a.tmps.size = 122 := hsm.sz.trans hsz
              have hd2 : d 2 = false := hd
              have zz : 83 < a.tmps.size := by rw [hz]; decide
              rw [if_pos (by rfl)]
              have d0 : d 0 = true := hdep ⟨0, .data⟩ (by simp) (by rfl)
              have d1 : d 1 = true := hdep ⟨1, .data⟩ (by simp) (by rfl)
              have e1 := h81 d0
              have e2 := h82 d1
              rw [hd2] at htb
              have t1 := tmps_of_eval e1 (by rw [hz]; decide)
              have t2 := tmps_of_eval e2 (by rw [hz]; decide)
              simp only [Oper.wp, execOp]
              go_simp
              with_reducible refine (HB1.out _ htb.bl).mono ?_
              rintro e8 w8 ⟨A, cc, cs, rfl, hr, hch, hb⟩
              show K (a.put (some 83) _) _
              refine hK.out _ _ ⟨hsm.put (by decide) _, ?_, fun h => (eval_put_ne (by decide)).trans (h81 h), fun h => (eval_put_ne (by decide)).trans (h82 h), fun h => (eval_put_ne (by decide)).trans (h84 h), fun h => (eval_put_ne (by decide)).trans (h85 h)⟩
              rw [eval_put_same (a := a) (d := 83) zz, eval_put_ne (a := a) (d := 83) (k := 86) (by decide), eval_put_ne (a := a) (d := 83) (k := 11) (by decide), eval_put_ne (a := a) (d := 83) (k := 12) (by decide)]
              exact htb.call1 HLA.out HLB.out ⟨A, cc, cs, rfl, hr, hch⟩ hb
            · intro d a w9 K hd hdep ⟨hsm, htb, h81, h82, h84, h85⟩ hK
              have hz : a.tmps.size = 122 := hsm.sz.trans hsz
              have hd3 : d 3 = false := hd
              have zz : 84 < a.tmps.size := by rw [hz]; decide
              rw [if_pos (by rfl)]
              have e1 := (hsm.ev 7 (by decide)).trans f7
              obtain ⟨q0, q1, q2, q3, q4, q5, q6, q7, q8, q9, q10, q11, q12, q13⟩ := H9.out w9 htb.bl
              simp only [Oper.wp, execOp, e1]
              go_simp
              show K (a.put (some 84) _) _
              refine hK.out _ _ ⟨hsm.put (by decide) _, ?_, fun h => (eval_put_ne (by decide)).trans (h81 h), fun h => (eval_put_ne (by decide)).trans (h82 h), fun _ => eval_put_same zz, fun h => (eval_put_ne (by decide)).trans (h85 h)⟩
              rw [eval_put_ne (a := a) (d := 84) (k := 83) (by decide), eval_put_ne (a := a) (d := 84) (k := 86) (by decide), eval_put_ne (a := a) (d := 84) (k := 11) (by decide), eval_put_ne (a := a) (d := 84) (k := 12) (by decide)]
              exact htb
            · intro d a w9 K hd hdep ⟨hsm, htb, h81, h82, h84, h85⟩ hK
              have hz : a.tmps.size = 122 := hsm.sz.trans hsz
              have hd4 : d 4 = false := hd
              have zz : 85 < a.tmps.size := by rw [hz]; decide
              rw [if_pos (by rfl)]
              have e1 := (hsm.ev 8 (by decide)).trans f8
              obtain ⟨q0, q1, q2, q3, q4, q5, q6, q7, q8, q9, q10, q11, q12, q13⟩ := H9.out w9 htb.bl
              simp only [Oper.wp, execOp, e1]
              go_simp
              show K (a.put (some 85) _) _
              refine hK.out _ _ ⟨hsm.put (by decide) _, ?_, fun h => (eval_put_ne (by decide)).trans (h81 h), fun h => (eval_put_ne (by decide)).trans (h82 h), fun h => (eval_put_ne (by decide)).trans (h84 h), fun _ => eval_put_same zz⟩
              rw [eval_put_ne (a := a) (d := 85) (k := 83) (by decide), eval_put_ne (a := a) (d := 85) (k := 86) (by decide), eval_put_ne (a := a) (d := 85) (k := 11) (by decide), eval_put_ne (a := a) (d := 85) (k := 12) (by decide)]
              exact htb
            · intro d a w9 K hd hdep ⟨hsm, htb, h81, h82, h84, h85⟩ hK
              have hz : a.tmps.size = 122 := hsm.sz.trans hsz
              have hd5 : d 5 = false := hd
              have zz : 86 < a.tmps.size := by rw [hz]; decide
              rw [if_pos (by rfl)]
              have d3 : d 3 = true := hdep ⟨3, .data⟩ (by simp) (by rfl)
              have d4 : d 4 = true := hdep ⟨4, .data⟩ (by simp) (by rfl)
              have e1 := h84 d3
              have e2 := h85 d4
              rw [hd5] at htb
              have t1 := tmps_of_eval e1 (by rw [hz]; decide)
              have t2 := tmps_of_eval e2 (by rw [hz]; decide)
              simp only [Oper.wp, execOp]
              go_simp
              with_reducible refine (HB2.out _ htb.bl).mono ?_
              rintro e8 w8 ⟨A, cc, cs, rfl, hr, hch, hb⟩
              show K (a.put (some 86) _) _
              refine hK.out _ _ ⟨hsm.put (by decide) _, ?_, fun h => (eval_put_ne (by decide)).trans (h81 h), fun h => (eval_put_ne (by decide)).trans (h82 h), fun h => (eval_put_ne (by decide)).trans (h84 h), fun h => (eval_put_ne (by decide)).trans (h85 h)⟩
              rw [eval_put_ne (a := a) (d := 86) (k := 83) (by decide), eval_put_same (a := a) (d := 86) zz, eval_put_ne (a := a) (d := 86) (k := 11) (by decide), eval_put_ne (a := a) (d := 86) (k := 12) (by decide)]
              exact htb.call2 HLA.out HLB.out ⟨A, cc, cs, rfl, hr, hch⟩ hb
            · intro d a w9 K hd hdep ⟨hsm, htb, h81, h82, h84, h85⟩ hK
              have hz : a.tmps.size = 122 := hsm.sz.trans hsz
              have hd6 : d 6 = false := hd
              have zz : 11 < a.tmps.size := by rw [hz]; decide
              rw [if_pos (by rfl)]
              rw [hd6] at htb
              simp only [Oper.wp, execOp]
              go_simp
              show K (a.put (some 11) _) _
              refine hK.out _ _ ⟨hsm.put (by decide) _, ?_, fun h => (eval_put_ne (by decide)).trans (h81 h), fun h => (eval_put_ne (by decide)).trans (h82 h), fun h => (eval_put_ne (by decide)).trans (h84 h), fun h => (eval_put_ne (by decide)).trans (h85 h)⟩
              rw [eval_put_ne (a := a) (d := 11) (k := 83) (by decide), eval_put_ne (a := a) (d := 11) (k := 86) (by decide), eval_put_same (a := a) (d := 11) zz, eval_put_ne (a := a) (d := 11) (k := 12) (by decide)]
              exact htb.box1 HLA.out HLB.out
            · intro d a w9 K hd hdep ⟨hsm, htb, h81, h82, h84, h85⟩ hK
              have hz : a.tmps.size = 122 := hsm.sz.trans hsz
              have hd7 : d 7 = false := hd
              have zz : 12 < a.tmps.size := by rw [hz]; decide
              rw [if_pos (by rfl)]
              rw [hd7] at htb
              simp only [Oper.wp, execOp]
              go_simp
              show K (a.put (some 12) _) _
              refine hK.out _ _ ⟨hsm.put (by decide) _, ?_, fun h => (eval_put_ne (by decide)).trans (h81 h), fun h => (eval_put_ne (by decide)).trans (h82 h), fun h => (eval_put_ne (by decide)).trans (h84 h), fun h => (eval_put_ne (by decide)).trans (h85 h)⟩
              rw [eval_put_ne (a := a) (d := 12) (k := 83) (by decide), eval_put_ne (a := a) (d := 12) (k := 86) (by decide), eval_put_ne (a := a) (d := 12) (k := 11) (by decide), eval_put_same (a := a) (d := 12) zz]
              exact htb.box2 HLA.out HLB.out
            · intro d a w9 K hd hdep ⟨hsm, htb, h81, h82, h84, h85⟩ hK
              have hz : a.tmps.size = 122 := hsm.sz.trans hsz
              have hd8 : d 8 = false := hd
              rw [if_pos (by rfl)]
              have d6 : d 6 = true := hdep ⟨6, .data⟩ (by simp) (by rfl)
              have d2 : d 2 = true := hdep ⟨2, .data⟩ (by simp) (by rfl)
              rw [hd8, d6, d2] at htb
              obtain ⟨g, e1, hge, hbk, _⟩ := htb.b1 rfl
              obtain ⟨c, e2, hphi⟩ := htb.r1 rfl
              obtain ⟨A, cc, cs, rfl, hr, hch⟩ := hphi
              have K0 := hbk rfl
              have v0 := K0.cell 0
              have v1 := K0.cell 1
              have v2 := K0.cell 2
              have z0 := K0.frozen 0
              have z1 := K0.frozen 1
              have z2 := K0.frozen 2
              simp at v0 v1 v2
              simp only [Oper.wp, execOp, e1, e2]
              go_simp
              show K a _
              refine hK.out _ _ ⟨hsm, ?_, h81, h82, h84, h85⟩
              have hup : upd d (0 + 1 + 1 + 1 + 1 + 1 + 1 + 1 + 1) 8 = true := rfl
              have h1 : upd d (0 + 1 + 1 + 1 + 1 + 1 + 1 + 1 + 1) 6 = true := d6
              have h2 : upd d (0 + 1 + 1 + 1 + 1 + 1 + 1 + 1 + 1) 2 = true := d2
              rw [hup, h1, h2, e1, e2]
              rw [e1, e2] at htb
              exact htb.put1 HLA.out HLB.out (K0.set3 _ _ _ ) (touch3 _ _ _ _ _ )
            · intro d a w9 K hd hdep ⟨hsm, htb, h81, h82, h84, h85⟩ hK
              have hz : a.tmps.size = 122 := hsm.sz.trans hsz
              have hd9 : d 9 = false := hd
              rw [if_pos (by rfl)]
              have d7 : d 7 = true := hdep ⟨7, .data⟩ (by simp) (by rfl)
              have d5 : d 5 = true := hdep ⟨5, .data⟩ (by simp) (by rfl)
              rw [hd9, d7, d5] at htb
              obtain ⟨g, e1, hge, hbk, _⟩ := htb.b2 rfl
              obtain ⟨c, e2, hphi⟩ := htb.r2 rfl
              obtain ⟨A, cc, cs, rfl, hr, hch⟩ := hphi
              have K0 := hbk rfl
              have v0 := K0.cell 0
              have v1 := K0.cell 1
              have v2 := K0.cell 2
              have z0 := K0.frozen 0
              have z1 := K0.frozen 1
              have z2 := K0.frozen 2
              simp at v0 v1 v2
              simp only [Oper.wp, execOp, e1, e2]
              go_simp
              show K a _
              refine hK.out _ _ ⟨hsm, ?_, h81, h82, h84, h85⟩
              have hup : upd d (0 + 1 + 1 + 1 + 1 + 1 + 1 + 1 + 1 + 1) 9 = true := rfl
              have h1 : upd d (0 + 1 + 1 + 1 + 1 + 1 + 1 + 1 + 1 + 1) 7 = true := d7
              have h2 : upd d (0 + 1 + 1 + 1 + 1 + 1 + 1 + 1 + 1 + 1) 5 = true := d5
              rw [hup, h1, h2, e1, e2]
              rw [e1, e2] at htb
              exact htb.put2 HLA.out HLB.out (K0.set3 _ _ _ ) (touch3 _ _ _ _ _ )
          · intro d a w9 hd ⟨hsm, htb, h81, h82, h84, h85⟩
            have d0 : d 0 = true := hd 0 (by simp)
            have d1 : d 1 = true := hd 1 (by simp)
            have d2 : d 2 = true := hd 2 (by simp)
            have d3 : d 3 = true := hd 3 (by simp)
            have d4 : d 4 = true := hd 4 (by simp)
            have d5 : d 5 = true := hd 5 (by simp)
            have d6 : d 6 = true := hd 6 (by simp)
            have d7 : d 7 = true := hd 7 (by simp)
            have d8 : d 8 = true := hd 8 (by simp)
            have d9 : d 9 = true := hd 9 (by simp)
            rw [d2, d5, d6, d7, d8, d9] at htb
            obtain ⟨ga9, gb9, ca9, cb9, e1, e2, e3, e4, k1, k2, p1, p2, hne9, hg1, hg2, hb9⟩ := htb.done
            have ha := hsm.eq
            simp only [List.foldl_cons, List.foldl_nil] at ha
            rw [h81 d0, h82 d1, e3, h84 d3, h85 d4, e4, e1, e2] at ha
            clear hsm htb h81 h82 h84 h85 e1 e2 e3 e4 hd
            subst ha
            simp only [Act.put, List.setIfInBounds_toArray, List.set_cons_zero, List.set_cons_succ]
            obtain ⟨A, c, cs, rfl, ra, hca⟩ := p1
            obtain ⟨A', c', cs', rfl, rb, hcb⟩ := p2
            go_wp2_with fail
            go_meet
            exact ⟨ga9, gb9, A, c, cs, A', c', cs', rfl, rfl, k1, k2, ra, rb, hca, hcb, hb9⟩
        case rest =>
          obtain ⟨pa, pb, A, c, cs, A', c', cs', rfl, rfl, kpa, kpb, ra, rb, hch, hch', hbx⟩ := hcut
          rename World => wx
          have HKPA := Lib.hid kpa
          have HKPB := Lib.hid kpb
          have HRA := Lib.hid ra
          have HRB := Lib.hid rb
          have HMX := Lib.hid (HMv.out.next hbx)
          have HDC : Hid (∀ i, i < nc → ∃ x x', cs[i]? = some x ∧ cs'[i]? = some x' ∧ x.v.c ≤ x'.v.c) := fun i hi => HDR.out.cells HRO.out HRO2.out HLO.out HLO2.out hch hch' hsb.1 (by rw [hnc]; exact hi)
          have hncb : nc ≤ 1000000000 := by
            have h1 := tri_le S' S'
            have h2 : S' * S' ≤ 9 * 9 := Nat.mul_le_mul hsb.2.2.1 hsb.2.2.1
            have h3 : tri S' S' * N' ≤ 81 * 10 := Nat.mul_le_mul (by omega) hsb.2.1
            omega
          have HSZX : Hid (bn ≤ wx.heap.size) := by have := HMX.out.k1.lt; show bn ≤ _; omega
          have H8 : Hid (∀ w9, Below wx.heap.size wx w9 → (w9.cell? ⟨bn, 0, none⟩ = some (.int .i64 T) ∧ w9.cell? ⟨bn, 1, none⟩ = some (.int .i64 N') ∧ w9.cell? ⟨bn, 2, none⟩ = some (.int .i64 st) ∧ w9.cell? ⟨bn, 3, none⟩ = some (.slice RA nR rc) ∧ w9.cell? ⟨bn + 1, 0, none⟩ = some (.int .i64 S') ∧ w9.cell? ⟨bn + 1, 1, none⟩ = some (.slice LA nL lc) ∧ w9.cell? ⟨bn + 1, 2, none⟩ = some (.slice FA nf fc) ∧ w9.cell? ⟨ga, 0, none⟩ = some (.int .i64 T) ∧ w9.cell? ⟨ga, 1, none⟩ = some (.int .i64 N') ∧ w9.cell? ⟨ga, 2, none⟩ = some (.int .i64 st) ∧ w9.cell? ⟨ga, 3, none⟩ = some (.slice (some ⟨gr, 0, none⟩) nR cA) ∧ w9.cell? ⟨gb, 0, none⟩ = some (.int .i64 S') ∧ w9.cell? ⟨gb, 1, none⟩ = some (.slice KA nL kc) ∧ w9.cell? ⟨gb, 2, none⟩ = some (.slice FA nf fc)) ∧ w9.cell? ⟨pa, 0, none⟩ = some (.int .i64 N') ∧ w9.cell? ⟨pa, 1, none⟩ = some (.int .i64 S') ∧ w9.cell? ⟨pa, 2, none⟩ = some (.slice A nc c) ∧ w9.cell? ⟨pb, 0, none⟩ = some (.int .i64 N') ∧ w9.cell? ⟨pb, 1, none⟩ = some (.int .i64 S') ∧ w9.cell? ⟨pb, 2, none⟩ = some (.slice A' nc c')) := fun w9 h => by
            have hb := HKPA.out.below h HKPA.out.lt
            have hb' := HKPB.out.below h HKPB.out.lt
            exact ⟨H9.out _ (hbx.trans (h.mono hbx.size)), hb.cell 0, hb.cell 1, hb.cell 2, hb'.cell 0, hb'.cell 1, hb'.cell 2⟩
          have HSPA : Hid (∀ w9, Calls Tryd.prog 18 #[.agg #[.int .i64 T, .int .i64 N', .int .i64 st, .slice RA nR rc], .agg #[.int .i64 S', .slice LA nL lc, .slice FA nf fc], .agg #[.int .i64 N', .int .i64 S', .slice A nc c]] w9 fun e w' => e = .returned (.bool true) ∧ Below w9.heap.size w9 w') := fun w9 => spanned_any w9 T st N' S' nR rc nL lc nf fc nc c RA LA FA A (by omega) (by omega) hnc.symm
          have HSPB : Hid (∀ w9, Calls Tryd.prog 18 #[.agg #[.int .i64 T, .int .i64 N', .int .i64 st, .slice (some ⟨gr, 0, none⟩) nR cA], .agg #[.int .i64 S', .slice KA nL kc, .slice FA nf fc], .agg #[.int .i64 N', .int .i64 S', .slice A' nc c']] w9 fun e w' => e = .returned (.bool true) ∧ Below w9.heap.size w9 w') := fun w9 => spanned_any w9 T st N' S' nR cA nL kc nf fc nc c' (some ⟨gr, 0, none⟩) KA FA A' (by omega) (by omega) hnc.symm
          obtain ⟨⟨n0, n1, n2, n3, l0, l1, l2, _, _, _, _, _, _, _⟩, s0, s1, s2, _, _, _⟩ := H8.out wx (Below.refl _ _)
          clear kpa kpb ra rb hch hch' hbx hnc HB1 HB2 H9
          go_upto_region 12 with fail
          go_wp2_with fail
          refine (HSPA.out _).mono ?_
          rintro e w4 ⟨rfl, hb4⟩
          have HX4 := Lib.hid hb4
          clear n0 n1 n2 n3 l0 l1 l2 s0 s1 s2 hb4
          obtain ⟨⟨_, _, _, _, _, _, _, n0, n1, n2, n3, l0, l1, l2⟩, _, _, _, s0, s1, s2⟩ := H8.out _ HX4.out
          go_wp2_with fail
          refine (HSPB.out _).mono ?_
          rintro e w5 ⟨rfl, hb5⟩
          have HX5 : Hid (Below wx.heap.size wx w5) := HX4.out.trans (hb5.mono HX4.out.size)
          clear n0 n1 n2 n3 l0 l1 l2 s0 s1 s2 hb5
          go_upto_region 14 with fail
          go_wp2_with fail
          go_loopw [13] (fun q wr => ∃ i : Nat, i ≤ nc ∧ q = .int .i64 i ∧ Hid (Below wx.heap.size wx wr)) (fun q _ => nc - (intOf q).toNat)
          case atStart => exact ⟨0, Nat.zero_le _, rfl, HX5⟩
          case round =>
            obtain ⟨k, hk, rfl, HXr⟩ := hrel
            clear HX5 HX4
            obtain ⟨_, _, _, s2, _, _, v2⟩ := H8.out _ HXr.out
            have uk : IntKind.i64.wrap ((k : Int) + 1) = (k : Int) + 1 := IntWalk.i64_in _ (by omega)
            by_cases hlt : k < nc
            case neg => as_aux_lemma =>
              have hltD : decide (k < nc) = false := by simp [hlt]
              have HAW := Lib.hid (awake_any wr (HG0.out _ (HMX.out.below.trans (HXr.out.mono HSZX.out))))
              clear v2
              go_wp2_with fail
              refine HAW.out.mono ?_
              rintro e w6 ⟨rfl, hb6⟩
              have HX6 : Hid (Below bn w w6) := (HMX.out.below.trans (HXr.out.mono HSZX.out)).trans (hb6.mono (Nat.le_trans HSZX.out HXr.out.size))
              clear hb6
              go_wp2_with fail
              go_ret
              exact ⟨rfl, by rw [HBN.out]; exact HX6.out⟩
            case pos =>
              have hltD : decide (k < nc) = true := by simp [hlt]
              obtain ⟨ba, offa, x, hA, _, hx, p0, _⟩ := (HRA.out.below HXr.out).cl_at hlt
              obtain ⟨bb, offb, x', hA', _, hx', q0, _⟩ := (HRB.out.below HXr.out).cl_at hlt
              obtain ⟨z, z', hz, hz', hle⟩ := HDC.out k hlt
              rw [hx] at hz
              rw [hx'] at hz'
              injection hz with hz
              injection hz' with hz'
              subst hz hz'
              rw [hA] at s2
              rw [hA'] at v2
              have dc : decide (x'.v.c < x.v.c) = false := by simp; omega
              have hltI : (k : Int) < (nc : Int) := by omega
              have h0D : decide ((k : Int) < 0) = false := by simp
              have h0L : decide (0 ≤ (k : Int)) = true := by simp
              clear hA hA' hx hx' hle
              go_upto_region 17 with fail
              go_quiet (fail)
              go_wp2_with fail
              go_roundw
              case rel => exact ⟨k + 1, by omega, by go_num, below_drewN HXr.out _⟩
              case measure => simp [intOf]; omega
end Go.Proofs.YthakcefgbggkcaaDoor
