/- The law of Span: it uses the cells of the spans inside alone. -/
import Derived.Test.YthakcefgbggkcaaDoorChMay
import Derived.Test.YthakcefgbggkcaaDoorChSub
import Derived.Test.YthakcefgbggkcaaDoorChLFixed
import Derived.OwnWalk
namespace Go.Proofs.YthakcefgbggkcaaDoor
open Go.RowKit

section
variable {P : Program} (w : World)
theorem wpList_append_any {ops : Array Oper} {rest : List Oper} {o : Oper} {a : Act} {Q : Exit → Act → World → Prop} (hgd : o.guard = none) (s x : Operand) (t : TypeId)
    (ho : o.op = .call { callee := .builtin .append, args := #[s, x], argTypes := #[t, t] })
    (base : Nat) (e : TypeId) (i : TypeInfo) (z : Value) (size bytes : Nat) (ht : P.underlying t = some (.slice e)) (hi : P.info? e = some i) (hz : i.zero = some z)
    (hsize : i.size = size) (hby : i.bytes = bytes) (hzs : z.cells.size = size) (hsz : 0 < size)
    (v : Value) (n : Nat) (xs : List Value) (hs : a.eval s = v) (hown : w.ownsRow base e size v n xs)
    (B : Nat) (A : Option Addr) (m c : Nat) (news : List Value) (hx : a.eval x = .slice A m c) (hr : Reads w B size A m news) (h1 : ∀ u ∈ news, u.oneCell' = true)
    (h63 : n + m ≤ maxLen) (hbytes : (n + m) * bytes ≤ 140737488355328) (hbase : base ≤ w.heap.size)
    (h : ∀ v' w', w'.ownsRow base e size v' (n + m) (xs ++ news) → w.grownBy w' v.ownBlock → (v'.ownBlock = v.ownBlock ∨ v'.ownBlock = some w.heap.size) → wpList P ops Q rest (a.put o.dst v') w') : wpList P ops Q (o :: rest) a w :=
  wpList_plain hgd fun _ hK => wp_append_any w s x t ho base e i z size bytes ht hi hz hsize hby hzs hsz v n xs hs hown B A m c news hx hr h1 h63 hbytes hbase fun v' w' h2 h3 h4 => hK _ _ (h v' w' h2 h3 h4)
end
/-- The cells of the spans strictly inside are as they were. -/
structure XInv (N S f t nc : Nat) (cs xs : List Cl) : Prop where
  len : xs.length = nc
  nrm : ∀ c ∈ xs, Nrm c.v
  keep : ∀ s u, f ≤ s → s ≤ u → u ≤ t → ¬ (s = f ∧ u = t) → ∀ j < N, xs[cix S s u * N + j]? = cs[cix S s u * N + j]?
theorem XInv.put {N S f t nc s u i : Nat} {cs xs : List Cl} (h : XInv N S f t nc cs xs) (hsu : s ≤ u) (huS : u < S) (htS : t < S) (hi : i < N) (hbad : s < f ∨ t < u ∨ (s = f ∧ u = t)) {y : Cl} (hy : Nrm y.v) : XInv N S f t nc cs (xs.set (cix S s u * N + i) y) := by
  refine ⟨by rw [List.length_set]; exact h.len, fun c hc => ?_, fun s' u' h1 h2 h3 h4 j hj => ?_⟩
  · rcases List.mem_or_eq_of_mem_set hc with h1 | rfl
    · exact h.nrm c h1
    · exact hy
  · rw [List.getElem?_set, if_neg, h.keep s' u' h1 h2 h3 h4 j hj]
    intro e
    have hne : cix S s u ≠ cix S s' u' := fun e => by
      have := cix_inj hsu huS h2 (by omega) e
      omega
    rcases far_idx (N := N) (j := i) hi hne with h5 | h5 <;> omega
theorem XInv.agree {N S f t nc : Nat} {cs xs : List Cl} (h : XInv N S f t nc cs xs) : AgreeIn N f t (CC N S cs) (CC N S xs) := by
  intro x hx hf hft ht hno
  unfold CC atC
  split
  · rename_i hc
    have hne : ¬ (x.f.toNat = f ∧ x.t.toNat = t) := fun e => by rw [own_iff.2 ⟨by omega, by omega⟩] at hno; cases hno
    rw [h.keep x.f.toNat x.t.toNat (by omega) (by omega) (by omega) hne x.h.toNat (by omega)]
  · rfl
/-- What the law of Span holds in memory. -/
structure XM (w0 w : World) (bn p g q gx cA : Nat) (k1 k2 : Array Value) (N S nc : Nat) (cs xs : List Cl) : Prop where
  k1 : Blk w bn 24 k1
  k2 : Blk w (bn + 1) 28 k2
  kp : Blk w p 34 #[.int .i64 N, .int .i64 S, .slice (some ⟨g, 0, none⟩) nc nc]
  kg : Blk w g 47 (cls cs).toArray
  kq : Blk w q 34 #[.int .i64 N, .int .i64 S, .slice (some ⟨gx, 0, none⟩) nc cA]
  kx : CO w (q + 1) gx cA nc xs
  lt : bn + 1 < p ∧ bn + 1 < g ∧ bn + 1 < q ∧ p < q ∧ g < q
  below : Below bn w0 w
section
variable {w0 w w' : World} {bn p g q gx cA : Nat} {k1 k2 : Array Value} {N S nc : Nat} {cs xs : List Cl}
theorem XM.next (h : XM w0 w bn p g q gx cA k1 k2 N S nc cs xs) (hb : Below w.heap.size w w') : XM w0 w' bn p g q gx cA k1 k2 N S nc cs xs :=
  ⟨h.k1.below hb h.k1.lt, h.k2.below hb h.k2.lt, h.kp.below hb h.kp.lt, h.kg.below hb h.kg.lt, h.kq.below hb h.kq.lt, h.kx.below hb, h.lt, h.below.trans (hb.mono (by have := h.k1.lt; omega))⟩
theorem XM.put (h : XM w0 w bn p g q gx cA k1 k2 N S nc cs xs) {i : Nat} (hi : i < nc) (e : Cl) :
    XM w0 ((((w.setCell ⟨gx, i * 4, none⟩ (.int .i64 e.v.c)).setCell ⟨gx, i * 4 + 1, none⟩ (.int .i64 e.v.s)).setCell ⟨gx, i * 4 + 2, none⟩ (.int .i64 e.r)).setCell ⟨gx, i * 4 + 3, none⟩ (.int .i64 e.a)) bn p g q gx cA k1 k2 N S nc cs (xs.set i e) := by
  have hl := h.kx.lt.1
  have hn := h.lt
  exact ⟨far4 h.k1 (by omega) i e, far4 h.k2 (by omega) i e, far4 h.kp (by omega) i e, far4 h.kg (by omega) i e, far4 h.kq (by omega) i e, h.kx.put hi e, hn,
    (((h.below.setCell (p := ⟨gx, i * 4, none⟩) (by show bn ≤ gx; omega) _).setCell (p := ⟨gx, i * 4 + 1, none⟩) (by show bn ≤ gx; omega) _).setCell (p := ⟨gx, i * 4 + 2, none⟩) (by show bn ≤ gx; omega) _).setCell (p := ⟨gx, i * 4 + 3, none⟩) (by show bn ≤ gx; omega) _⟩
end
set_option maxRecDepth 100000 in
set_option maxHeartbeats 8000000 in
theorem lawSpan_any (w : World) (T N st S : Int) (RA LA FA : Option Addr) (nR rc nL lc nf fc B : Nat) (R : List Rl) (L : List Ar) (fs : List Int) (x y : Nat) (hx : x < 256) (hy : y < 256) (hR : Reads w B 6 RA nR (rls R)) (hL : Reads w B 5 LA nL (ars L)) (hF : Reads w B 1 FA nf (ints fs)) (hB : B ≤ w.heap.size) (hg : NoneAt w) :
    Calls Tryd.prog 6 #[.agg #[.int .i64 T, .int .i64 N, .int .i64 st, .slice RA nR rc], .agg #[.int .i64 S, .slice LA nL lc, .slice FA nf fc], .agg #[.int .u8 (x : Nat), .int .u8 (y : Nat)]] w fun e w' => e = .returned (.bool true) ∧ Below w.heap.size w w' := by
  obtain ⟨W, hW⟩ : ∃ W, ((w.alloc (.cells #[.int .i64 T, .int .i64 N, .int .i64 st, .slice RA nR rc] 24)).alloc (.cells #[.int .i64 S, .slice LA nL lc, .slice FA nf fc] 28)).alloc (.cells #[.int .u8 (x : Nat), .int .u8 (y : Nat)] 56) = W := ⟨_, rfl⟩
  obtain ⟨bn, hbn⟩ : ∃ bn, w.heap.size = bn := ⟨_, rfl⟩
  have K1 : Blk W bn 24 #[.int .i64 T, .int .i64 N, .int .i64 st, .slice RA nR rc] := by rw [← hW]; exact ((Blk.new' _ _ _ hbn).alloc _).alloc _
  have K2 : Blk W (bn + 1) 28 #[.int .i64 S, .slice LA nL lc, .slice FA nf fc] := by rw [← hW]; exact (Blk.new' _ _ _ (by simp; omega)).alloc _
  have K3 : Blk W (bn + 1 + 1) 56 #[.int .u8 (x : Nat), .int .u8 (y : Nat)] := by rw [← hW]; exact Blk.new' _ _ _ (by simp; omega)
  have hBW : Below bn w W := by rw [← hW]; exact (((Below.refl _ _).alloc (by omega) _).alloc (by simp; omega) _).alloc (by simp; omega) _
  have n0 := K1.cell 0
  have n1 := K1.cell 1
  have n2 := K1.cell 2
  have n3 := K1.cell 3
  have l0 := K2.cell 0
  have l1 := K2.cell 1
  have l2 := K2.cell 2
  simp at n0 n1 n2 n3 l0 l1 l2
  have HK1 := Lib.hid K1
  have HK2 := Lib.hid K2
  have HK3 := Lib.hid K3
  have HBW := Lib.hid hBW
  have HW := Lib.hid hW
  have HBN := Lib.hid hbn
  have hnR := hR.len_rls
  have hnL := hL.len_ars
  have HRL := Lib.hid hnR
  have HLL := Lib.hid hnL
  have HR := Lib.hid (hR.more (show B ≤ bn by omega))
  have HL := Lib.hid (hL.more (show B ≤ bn by omega))
  have HF := Lib.hid (hF.more (show B ≤ bn by omega))
  have HG := Lib.hid (hg.below hBW (by rw [← hbn]; exact hg.lt))
  have HG0 : Hid (∀ w9, Below bn w w9 → NoneAt w9) := fun w9 h => hg.below h (by rw [← hbn]; exact hg.lt)
  have HMAY := Lib.hid (may_any W T N st S RA LA FA nR rc nL lc nf fc bn R L fs (HR.out.below hBW) (HL.out.below hBW) (HF.out.below hBW) (by have := hBW.size; omega))
  clear hW hBW K1 K2 K3 hR hL hF hB hnR hnL hg
  go_enter Tryd.func6, Tryd.ntmps6
  go_upto_region 1 with fail
  try rw [hbn]
  rw [HW.out]
  go_wp2_with fail
  refine HMAY.out.mono ?_
  rintro e w1 ⟨b, rfl, hmay, hb1⟩
  have HM := Lib.hid hmay
  have HA1 := Lib.hid (HK1.out.below hb1 HK1.out.lt)
  have HA2 := Lib.hid (HK2.out.below hb1 HK2.out.lt)
  have HA3 := Lib.hid (HK3.out.below hb1 HK3.out.lt)
  have HG1 : Hid (NoneAt w1) := HG.out.next hb1
  have HX1 : Hid (Below bn w w1) := HBW.out.trans (hb1.mono (by have := HBW.out.size; omega))
  clear n0 n1 n2 n3 l0 l1 l2 hb1 hmay HMAY
  cases b with
  | false =>
    have HAW := Lib.hid (awake_any w1 HG1.out)
    go_wp2_with fail
    refine HAW.out.mono ?_
    rintro e w2 ⟨rfl, hb2⟩
    have HX2 : Hid (Below bn w w2) := HX1.out.trans (hb2.mono (by have := HX1.out.size; omega))
    clear hb2
    go_wp2_with fail
    go_ret
    exact ⟨rfl, by rw [HBN.out]; exact HX2.out⟩
  | true =>
    have hok := (by first | exact HM.out rfl | exact HM.out trivial | exact HM.out : MayOk T N st S R L fs)
    obtain ⟨N', rfl⟩ := Int.eq_ofNat_of_zero_le (show 0 ≤ N by have := hok.nm.hN; omega)
    obtain ⟨S', rfl⟩ := Int.eq_ofNat_of_zero_le (show 0 ≤ S by have := hok.la.hS; omega)
    have hN0 : 0 < N' := by have := hok.nm.hN; omega
    have hN1 : N' ≤ 10 := by have := hok.hN; omega
    have hS1 : S' ≤ 9 := by have := hok.hS; omega
    have hrl := hok.nm.rl
    have hla := hok.la.ars
    rw [Int.toNat_natCast] at hrl hla
    have hnR := hok.hR
    have hnL := hok.hL
    rw [HRL.out] at hnR
    rw [HLL.out] at hnL
    have hsz : bn ≤ w1.heap.size := by have := HX1.out.size; omega
    have hS0 : 0 < S' := by have := hok.la.hS; omega
    obtain ⟨k1, hk1⟩ : ∃ k1 : Array Value, #[.int .i64 T, .int .i64 N', .int .i64 st, .slice RA nR rc] = k1 := ⟨_, rfl⟩
    obtain ⟨k2, hk2⟩ : ∃ k2 : Array Value, #[.int .i64 S', .slice LA nL lc, .slice FA nf fc] = k2 := ⟨_, rfl⟩
    have HK := Lib.hid (And.intro hk1 hk2)
    have a1 := HA1.out.cell 0
    have a2 := HA1.out.cell 1
    have a3 := HA1.out.cell 2
    have a4 := HA1.out.cell 3
    have a5 := HA2.out.cell 0
    have a6 := HA2.out.cell 1
    have a7 := HA2.out.cell 2
    simp at a1 a2 a3 a4 a5 a6 a7
    rw [hk1] at HA1
    rw [hk2] at HA2
    have HRB := Lib.hid (rbuild_any w1 T st N' S' nR rc nL lc nf fc bn RA LA FA R L (HR.out.below HX1.out) (HL.out.below HX1.out) hsz hN0 (by omega) (by omega) (by omega) (by omega) hrl hla)
    obtain ⟨nc, hnc⟩ : ∃ nc, tri S' S' * N' = nc := ⟨_, rfl⟩
    have hncb : nc ≤ 1000000000 ∧ 0 < nc := by
      have h1 := tri_le S' S'
      have h2 : S' * S' ≤ 9 * 9 := Nat.mul_le_mul hS1 hS1
      have h3 : tri S' S' * N' ≤ 81 * 10 := Nat.mul_le_mul (by omega) hN1
      have h4 := tri_ge S' S' (Nat.le_refl _)
      have h5 : 1 * 1 ≤ tri S' S' * N' := Nat.mul_le_mul (by omega) hN0
      omega
    have HNC := Lib.hid hnc
    have HNCB := Lib.hid hncb
    have HRO := Lib.hid hrl
    have HLO := Lib.hid hla
    have HSB := Lib.hid (And.intro hN0 (And.intro hN1 (And.intro hS1 (And.intro hnR (And.intro hnL hS0)))))
    obtain ⟨f, hf⟩ : ∃ f, x % S' = f := ⟨_, rfl⟩
    have hfS : f < S' := by rw [← hf]; exact Nat.mod_lt _ hS0
    obtain ⟨d, hd⟩ : ∃ d, S' - f = d := ⟨_, rfl⟩
    have hd0 : 0 < d := by omega
    obtain ⟨r, hr⟩ : ∃ r, y % d = r := ⟨_, rfl⟩
    have hrd : r < d := by rw [← hr]; exact Nat.mod_lt _ hd0
    have m1 : (x : Int).tmod (S' : Int) = (f : Int) := by rw [Int.tmod_eq_emod_of_nonneg (by omega), ← hf]; omega
    have m2 : (y : Int).tmod (d : Int) = (r : Int) := by rw [Int.tmod_eq_emod_of_nonneg (by omega), ← hr]; omega
    have m1e : (x : Int) % (S' : Int) = (f : Int) := by rw [← hf]; omega
    have m2e : (y : Int) % (d : Int) = (r : Int) := by rw [← hr]; omega
    have m3 : (S' : Int) - (f : Int) = (d : Int) := by omega
    have HMR := Lib.hid (And.intro m1 (And.intro m2 (And.intro m1e (And.intro m2e m3))))
    have HFD := Lib.hid (And.intro hfS (And.intro hd hrd))
    clear hok hrl hla HM hnc hk1 hk2 hf hd hr m1 m2 m1e m2e m3
    go_upto_region 3 with fail
    go_upto_region 4 with (go_at_call 15; (with_reducible refine HRB.out.mono ?_); rintro e w2 ⟨g, nc', cs, rfl, hnc', bk, hgl, hch, hb2⟩; obtain rfl : nc' = nc := (hnc'.trans HNC.out); clear hnc')
    clear a1 a2 a3 a4 a6 a7
    obtain ⟨p, hp⟩ : ∃ p, w2.heap.size = p := ⟨_, rfl⟩
    obtain ⟨w3, hw3⟩ : ∃ w3, w2.alloc (.cells #[.int .i64 N', .int .i64 S', .slice (some ⟨g, 0, none⟩) nc' nc'] 34) = w3 := ⟨_, rfl⟩
    have hb3 : Below w1.heap.size w1 w3 := by rw [← hw3]; exact hb2.alloc hb2.size _
    have hb23 : Below w2.heap.size w2 w3 := by rw [← hw3]; exact (Below.refl _ _).alloc (Nat.le_refl _) _
    have HP3 : Hid (Blk w3 p 34 #[.int .i64 N', .int .i64 S', .slice (some ⟨g, 0, none⟩) nc' nc']) := by rw [← hw3]; exact Blk.new' _ _ _ hp
    have HG3 : Hid (Blk w3 g 47 (cls cs).toArray) := bk.below hb23 bk.lt
    have HA13 := Lib.hid (HA1.out.below hb3 HA1.out.lt)
    have HA23 := Lib.hid (HA2.out.below hb3 HA2.out.lt)
    have HA33 := Lib.hid (HA3.out.below hb3 HA3.out.lt)
    have HX3 : Hid (Below bn w w3) := HX1.out.trans (hb3.mono hsz)
    have HNO3 : Hid (NoneAt w3) := HG1.out.next hb3
    have HCH := Lib.hid hch
    have HLC : Hid (cs.length = nc') := (Chart.len_ hch).trans HNC.out
    have hgp : g < p := by have := bk.lt; omega
    have hpl : bn + 1 < p ∧ bn + 1 < g := ⟨by have := HA2.out.lt; have := hb2.size; omega, by have := HA2.out.lt; omega⟩
    have HGP := Lib.hid (And.intro hgp hpl)
    rw [hw3, hp]
    clear hw3 hp hb3 hb23 hb2 bk hgl hch hgp hpl HRB a5
    have y0 := HA33.out.cell 0
    have y1 := HA33.out.cell 1
    simp at y0 y1
    have l0 : w3.cell? ⟨bn + 1, 0, none⟩ = some (.int .i64 S') := by have := HA23.out.cell 0; rw [← HK.out.2] at this; simpa using this
    have c0 := HP3.out.cell 0
    have c1 := HP3.out.cell 1
    have c2 := HP3.out.cell 2
    simp at c0 c1 c2
    obtain ⟨tt, htt⟩ : ∃ tt, f + r = tt := ⟨_, rfl⟩
    have HTT := Lib.hid htt
    have htS : tt < S' := by have := HFD.out; omega
    obtain ⟨m1, m2, m1e, m2e, m3⟩ := HMR.out
    have ux : IntKind.i64.wrap (x : Int) = (x : Int) := IntWalk.i64_in _ (by omega)
    have uy : IntKind.i64.wrap (y : Int) = (y : Int) := IntWalk.i64_in _ (by omega)
    have uf : IntKind.i64.wrap (f : Int) = (f : Int) := IntWalk.i64_in _ (by omega)
    have ur : IntKind.i64.wrap (r : Int) = (r : Int) := IntWalk.i64_in _ (by omega)
    have ud : IntKind.i64.wrap ((S' : Int) - (f : Int)) = (d : Int) := by rw [m3]; exact IntWalk.i64_in _ (by omega)
    have ut : IntKind.i64.wrap ((f : Int) + (r : Int)) = (tt : Int) := by rw [show (f : Int) + (r : Int) = (tt : Int) by omega]; exact IntWalk.i64_in _ (by omega)
    have z1 : ((S' : Int) == 0) = false := by simp; omega
    have z2 : ¬ (S' : Int) = 0 := by omega
    have z3 : ¬ S' = 0 := by omega
    have z4 : ((d : Int) == 0) = false := by simp; omega
    have z5 : ¬ (d : Int) = 0 := by omega
    have z6 : ¬ d = 0 := by omega
    clear m3 htt
    go_upto_region 6 with fail
    clear m1 m2 m1e m2e ux uy uf ur ud ut z1 z2 z3 z4 z5 z6 y0 y1 l0
    go_upto_region 7 with fail
    obtain ⟨q, hq⟩ : ∃ q, w3.heap.size = q := ⟨_, rfl⟩
    obtain ⟨w5, hw5⟩ : ∃ w5, w3.alloc (.cells #[.int .i64 N', .int .i64 S', .slice (some ⟨g, 0, none⟩) nc' nc'] 34) = w5 := ⟨_, rfl⟩
    have hb5 : Below w3.heap.size w3 w5 := by rw [← hw5]; exact (Below.refl _ _).alloc (Nat.le_refl _) _
    have HQ5 : Hid (Blk w5 q 34 #[.int .i64 N', .int .i64 S', .slice (some ⟨g, 0, none⟩) nc' nc']) := by rw [← hw5]; exact Blk.new' _ _ _ hq
    have HP5 := Lib.hid (HP3.out.below hb5 HP3.out.lt)
    have HG5 := Lib.hid (HG3.out.below hb5 HG3.out.lt)
    have HA15 := Lib.hid (HA13.out.below hb5 HA13.out.lt)
    have HA25 := Lib.hid (HA23.out.below hb5 HA23.out.lt)
    have HX5 : Hid (Below bn w w5) := HX3.out.trans (hb5.mono (by have := HA13.out.lt; omega))
    have HNO5 : Hid (NoneAt w5) := HNO3.out.next hb5
    have HS5 : Hid (w5.heap.size = q + 1) := by show w5.heap.size = q + 1; rw [← hw5, ← hq]; simp
    have HPQ : Hid (p < q) := by have := HP3.out.lt; show p < q; omega
    rw [hw5, hq]
    clear hw5 hq hb5 c0 c1 c2
    obtain ⟨i0, hi0, hz0, hz1, hz2⟩ := info_parts infoCl
    have HO0 : Hid ((w5.alloc (.cells #[] 47)).ownsRow w5.heap.size 47 4 (.slice (some ⟨w5.heap.size, 0, none⟩) 0 0) 0 []) :=
      ⟨rfl, .inr ⟨w5.heap.size, 0, #[], rfl, Nat.le_refl _, Blk.new w5 _ _, Nat.le_refl _, by unfold maxLen; omega, rfl, rfl⟩⟩
    have c2 : (w5.alloc (.cells #[] 47)).cell? ⟨p, 2, none⟩ = some (.slice (some ⟨g, 0, none⟩) nc' nc') := (HP5.out.alloc _).cell 2
    have HREa : Hid (Reads (w5.alloc (.cells #[] 47)) w5.heap.size 4 (some ⟨g, 0, none⟩) nc' (cls cs)) := (Reads.of_cls HG5.out HLC.out).below ((Below.refl w5.heap.size w5).alloc (Nat.le_refl _) (.cells #[] 47))
    have HEO : Hid (∀ u ∈ cls cs, u.oneCell' = true) := fun u hu => cls_one hu
    have hzb : w5.heap.size ≤ (w5.alloc (.cells #[] 47)).heap.size := by simp
    go_wp2_with (at_builtin; go_must (refine wpList_append_any _ (by rfl) _ _ 32 (by rfl) w5.heap.size 47 i0 (.agg #[.int .i64 0, .int .i64 0, .int .i64 0, .int .i64 0]) 4 32 Tryd.underlying32 hi0 hz0 hz1 hz2 rfl (by decide) (.slice (some ⟨w5.heap.size, 0, none⟩) 0 0) 0 [] (by rfl) HO0.out w5.heap.size (some ⟨g, 0, none⟩) nc' nc' (cls cs) (by rfl) HREa.out HEO.out (by unfold maxLen; omega) (by omega) hzb ?_; intro v6 w6 hown6 hgrow6 hat6; obtain ⟨A6, cA, rfl, hc6, _⟩ := own_form hown6; simp only [Nat.zero_add, List.nil_append] at hown6; simp only [Nat.zero_add]; have HOW6 := Lib.hid hown6; have hx6 : Below w5.heap.size w5 w6 := ((Below.refl _ w5).alloc (Nat.le_refl _) _).grown hgrow6 (by simp) (fun k hk => (by have h2 : w5.heap.size = k := (by simpa [Value.ownBlock] using hk); omega)); have HX6 := Lib.hid hx6; have KQ6 := Lib.hid (HQ5.out.below hx6 HQ5.out.lt); have e2 := KQ6.out.cell 2; simp at e2; have zz2 := KQ6.out.frozen 2; clear hown6 hgrow6 hat6 hc6 hx6 c2))
    have hlc : cs.length = nc' := HLC.out
    have hcof := CO.of (w := w6) (base := w5.heap.size) (N := nc') (own := cs) (by rw [hlc]; exact HOW6.out) hlc HNCB.out.2
    obtain ⟨gx, cA', hA6, hco⟩ := hcof
    injection hA6 with h1 h2 h3
    subst h1 h3
    rw [HS5.out] at hco
    obtain ⟨cur, hcur, hcuf⟩ := hco.blk HNCB.out.2
    have hgq : q + 1 ≤ gx := hco.lt.1
    have HX0 : Hid (XInv N' S' f tt nc' cs cs) := ⟨hlc, Chart.nrm_ HCH.out, fun _ _ _ _ _ _ _ _ => rfl⟩
    obtain ⟨w7, hw7⟩ : ∃ w7, w6.setCell ⟨q, 2, none⟩ (.slice (some ⟨gx, 0, none⟩) nc' cA) = w7 := ⟨_, rfl⟩
    have HMM : Hid (XM w w7 bn p g q gx cA k1 k2 N' S' nc' cs cs) := by
      have hgp := HGP.out
      have hpq := HPQ.out
      have hs5 := HS5.out
      rw [← hw7]
      refine ⟨(HA15.out.below HX6.out (by have := HA15.out.lt; omega)).far (p := ⟨q, 2, none⟩) (by show bn ≠ q; omega) _, (HA25.out.below HX6.out (by have := HA25.out.lt; omega)).far (p := ⟨q, 2, none⟩) (by show bn + 1 ≠ q; omega) _, (HP5.out.below HX6.out HP5.out.lt).far (p := ⟨q, 2, none⟩) (by show p ≠ q; omega) _, (HG5.out.below HX6.out HG5.out.lt).far (p := ⟨q, 2, none⟩) (by show g ≠ q; omega) _, ?_, hcuf _ (hcur.far (p := ⟨q, 2, none⟩) (by show gx ≠ q; omega) _), ⟨by omega, by omega, by omega, by omega, by omega⟩, ?_⟩
      · have := KQ6.out.set_ 2 (.slice (some ⟨gx, 0, none⟩) nc' cA)
        simpa using this
      · exact (HX5.out.trans (HX6.out.mono (by omega))).setCell (p := ⟨q, 2, none⟩) (by show bn ≤ q; omega) _
    rw [hw7]
    have HCAL : Hid (nc' ≤ cA) := by
      rcases HOW6.out.2 with ⟨hv, _⟩ | ⟨_, cap, _, hv, _, _, h1, _⟩
      · injection hv with h1; cases h1
      · injection hv with h5 h6 h7
        show nc' ≤ cA
        omega
    clear hw7 hco hcur hcuf hgq e2 zz2 hlc hzb hi0 hz0 hz1 hz2 HO0 HREa HEO HOW6 HX6 KQ6 HP5 HG5 HQ5 HA15 HA25 HX5 HNO5 HP3 HG3 HA13 HA23 HX3 HNO3
    go_wp2_with fail
    go_loopw [11] (fun x wr => ∃ s : Nat, s ≤ S' ∧ x = .int .i64 s ∧ ∃ xs, Hid (XM w wr bn p g q gx cA k1 k2 N' S' nc' cs xs) ∧ Hid (XInv N' S' f tt nc' cs xs)) (fun x _ => S' - (intOf x).toNat)
    case atStart => exact ⟨0, Nat.zero_le _, rfl, cs, HMM, HX0⟩
    case round =>
      obtain ⟨s, hs, rfl, xs, HM1, HI1⟩ := hrel
      clear HMM HX0
      have l0 : wr.cell? ⟨bn + 1, 0, none⟩ = some (.int .i64 S') := by have := HM1.out.k2.cell 0; rw [← HK.out.2] at this; simpa using this
      have us : IntKind.i64.wrap ((s : Int) + 1) = (s : Int) + 1 := IntWalk.i64_in _ (by have := HSB.out; omega)
      by_cases hlt : s < S'
      case pos =>
        have hltD : decide (s < S') = true := by simp [hlt]
        go_upto_region 11 with fail
        go_wp2_with fail
        clear l0
        rename World => w8
        go_loopw [12] (fun x wr => ∃ u : Nat, (s ≤ u ∧ u ≤ S') ∧ x = .int .i64 u ∧ ∃ xs, Hid (XM w wr bn p g q gx cA k1 k2 N' S' nc' cs xs) ∧ Hid (XInv N' S' f tt nc' cs xs)) (fun x _ => S' - (intOf x).toNat)
        case atStart => exact ⟨s, ⟨Nat.le_refl _, by omega⟩, rfl, xs, HM1, HI1⟩
        case round =>
          obtain ⟨u, hu, rfl, xs, HM2, HI2⟩ := hrel
          clear HM1 HI1
          have l0 : wr.cell? ⟨bn + 1, 0, none⟩ = some (.int .i64 S') := by have := HM2.out.k2.cell 0; rw [← HK.out.2] at this; simpa using this
          have uu : IntKind.i64.wrap ((u : Int) + 1) = (u : Int) + 1 := IntWalk.i64_in _ (by have := HSB.out; omega)
          by_cases hlt2 : u < S'
          case neg => as_aux_lemma =>
            have hltD2 : decide (u < S') = false := by simp [hlt2]
            go_wp2_with fail
            go_roundw
            case rel => exact ⟨s + 1, by omega, by go_num, xs, HM2, HI2⟩
            case measure => simp [intOf]; omega
          case pos =>
            have hltD2 : decide (u < S') = true := by simp [hlt2]
            have n1 : wr.cell? ⟨bn, 1, none⟩ = some (.int .i64 N') := by have := HM2.out.k1.cell 1; rw [← HK.out.1] at this; simpa using this
            have hcases : ((s < f ∨ tt < u ∨ (s = f ∧ u = tt)) ∧ ((decide (s < f) = true) ∨ (decide (s < f) = false ∧ decide (tt < u) = true) ∨ (decide (s < f) = false ∧ decide (tt < u) = false ∧ ((s : Int) == (f : Int)) = true ∧ ((u : Int) == (tt : Int)) = true))) ∨
                ((decide (s < f) = false ∧ decide (tt < u) = false ∧ ((s : Int) == (f : Int)) = false) ∨ (decide (s < f) = false ∧ decide (tt < u) = false ∧ ((s : Int) == (f : Int)) = true ∧ ((u : Int) == (tt : Int)) = false)) := by
              by_cases h1 : s < f
              · left; exact ⟨.inl h1, .inl (by simp [h1])⟩
              · by_cases h2 : tt < u
                · left; exact ⟨.inr (.inl h2), .inr (.inl ⟨by simp; omega, by simp [h2]⟩)⟩
                · by_cases h3 : s = f
                  · by_cases h4 : u = tt
                    · left; exact ⟨.inr (.inr ⟨h3, h4⟩), .inr (.inr ⟨by simp; omega, by simp; omega, by simp [h3], by simp [h4]⟩)⟩
                    · right; right; exact ⟨by simp; omega, by simp; omega, by simp [h3], by simp; omega⟩
                  · right; left; exact ⟨by simp; omega, by simp; omega, by simp; omega⟩
            rcases hcases with ⟨hbad, hcs⟩ | hcs
            case inr =>
              rcases hcs with ⟨d1, d2, d3⟩ | ⟨d1, d2, d3, d4⟩
              all_goals
                go_wp2_with fail
                go_roundw
                case rel => exact ⟨u + 1, by omega, by go_num, xs, HM2, HI2⟩
                case measure => simp [intOf]; omega
            case inl =>
              obtain ⟨o, ho⟩ : ∃ o, cix S' s u = o := ⟨_, rfl⟩
              have hroom := cix_room (N := N') (s := s) (t := u) hu.1 hlt2
              rw [ho, HNC.out] at hroom
              obtain ⟨z, hz⟩ : ∃ z, o * N' = z := ⟨_, rfl⟩
              rw [hz] at hroom
              have HIX := Lib.hid (rindex_any N' S' s u wr hu.1 hlt2 (by have := HSB.out; omega) (by have := HSB.out; omega))
              rw [ho, hz] at HIX
              have HO := Lib.hid (And.intro ho hz)
              have HBAD := Lib.hid hbad
              clear ho hz hbad
              rcases hcs with d1 | ⟨d1, d2⟩ | ⟨d1, d2, d3, d4⟩
              all_goals
                go_upto_region 15 with fail
                go_upto_region 16 with (go_at_call 20; (with_reducible refine HIX.out.mono ?_); rintro e w9 ⟨rfl, hb9⟩; have HM3 := Lib.hid (HM2.out.next hb9); clear hb9)
                go_wp2_with fail
                go_loopw [14] (fun x wr => ∃ i : Nat, i ≤ N' ∧ x = .int .i64 i ∧ ∃ xs, Hid (XM w wr bn p g q gx cA k1 k2 N' S' nc' cs xs) ∧ Hid (XInv N' S' f tt nc' cs xs)) (fun x _ => N' - (intOf x).toNat)
                case atStart => exact ⟨0, Nat.zero_le _, rfl, xs, HM3, HI2⟩
                case round => as_aux_lemma =>
                  obtain ⟨i, hi, rfl, xs, HM4, HI4⟩ := hrel
                  clear HM3 HM2 HI2 l0 n1
                  have n1 : wr.cell? ⟨bn, 1, none⟩ = some (.int .i64 N') := by have := HM4.out.k1.cell 1; rw [← HK.out.1] at this; simpa using this
                  by_cases hiN : i < N'
                  case neg =>
                    have hltD3 : decide (i < N') = false := by simp [hiN]
                    go_wp2_with fail
                    go_roundw
                    case rel => exact ⟨u + 1, by omega, by go_num, xs, HM4, HI4⟩
                    case measure => simp [intOf]; omega
                  case pos =>
                    have hltD3 : decide (i < N') = true := by simp [hiN]
                    have hzi : z + i < nc' := by omega
                    have q2 := HM4.out.kq.cell 2
                    simp at q2
                    obtain ⟨yy, hyy, y0, y1, y2, y3⟩ := HM4.out.kx.cell hzi
                    have v0 := HM4.out.kx.frozen ((z + i) * 4)
                    have v1 := HM4.out.kx.frozen ((z + i) * 4 + 1)
                    have v2 := HM4.out.kx.frozen ((z + i) * 4 + 2)
                    have v3 := HM4.out.kx.frozen ((z + i) * 4 + 3)
                    have uz : IntKind.i64.wrap ((z : Int) + (i : Int)) = (z : Int) + (i : Int) := IntWalk.i64_in _ (by have := HNCB.out; omega)
                    have ui : IntKind.i64.wrap ((i : Int) + 1) = (i : Int) + 1 := IntWalk.i64_in _ (by have := HSB.out; omega)
                    have hzI : (z : Int) + (i : Int) < (nc' : Int) := by omega
                    have hz0 : (0 : Int) ≤ (z : Int) + (i : Int) := by omega
                    have hzT : ((z : Int) + (i : Int)).toNat = z + i := by omega
                    have hput := HI4.out.put hu.1 hlt2 htS hiN HBAD.out (y := ⟨⟨0, 1⟩, 0, (s : Int)⟩) ⟨by unfold Ordy; simp, fun h => by simp at h⟩
                    rw [HO.out.1, HO.out.2] at hput
                    have HPUT := Lib.hid hput
                    have HMP := Lib.hid (HM4.out.put hzi ⟨⟨0, 1⟩, 0, (s : Int)⟩)
                    clear hput hyy
                    go_wp2_with fail
                    go_roundw
                    case rel => exact ⟨i + 1, by omega, by go_num, _, HMP, HPUT⟩
                    case measure => simp [intOf]; omega
      case neg =>
        have hltD : decide (s < S') = false := by simp [hlt]
        have n1 : wr.cell? ⟨bn, 1, none⟩ = some (.int .i64 N') := by have := HM1.out.k1.cell 1; rw [← HK.out.1] at this; simpa using this
        have hft : f ≤ tt := by have := HTT.out; omega
        obtain ⟨z, hz⟩ : ∃ z, cix S' f tt * N' = z := ⟨_, rfl⟩
        have hroom := cix_room (N := N') (s := f) (t := tt) hft htS
        rw [hz, HNC.out] at hroom
        have HIX := Lib.hid (rindex_any N' S' f tt wr hft htS (by have := HSB.out; omega) (by have := HSB.out; omega))
        rw [hz] at HIX
        have HZ := Lib.hid hz
        clear hz hs hlt
        go_upto_region 21 with (go_at_call 20; (with_reducible refine HIX.out.mono ?_); rintro e wv ⟨rfl, hbv⟩; have HMV := Lib.hid (HM1.out.next hbv); clear hbv)
        have HNV : Hid (NoneAt wv) := HG0.out _ HMV.out.below
        have HSZV : Hid (bn ≤ wv.heap.size) := by have := HMV.out.k1.lt; show bn ≤ _; omega
        clear HIX l0 n1 HM1 us
        have HAW : Hid (∀ w9, Below wv.heap.size wv w9 → Calls Tryd.prog 12 #[] w9 fun e w' => e = .returned (.bool true) ∧ Below w9.heap.size w9 w') := fun w9 h9 => awake_any w9 (HNV.out.next h9)
        have HSP : Hid (∀ w9, Below wv.heap.size wv w9 → Calls Tryd.prog 23 #[.agg #[.int .i64 T, .int .i64 N', .int .i64 st, .slice RA nR rc], .agg #[.int .i64 S', .slice LA nL lc, .slice FA nf fc], .agg #[.int .i64 N', .int .i64 S', .slice (some ⟨gx, 0, none⟩) nc' cA], .int .i64 f, .int .i64 tt] w9 fun e w' =>
            ∃ A c U, e = .returned (.slice A N' c) ∧ Reads w' w'.heap.size 4 A N' (cls ((List.range N').map (cel R L f tt (CC N' S' xs) U))) ∧ SSol R L f tt (CC N' S' xs) U ∧ Below w9.heap.size w9 w') := fun w9 h9 => by
          have hsb := HSB.out
          have hm9 := HMV.out.next h9
          have hx9 := hm9.below
          have hlen : xs.length = nc' := HI1.out.len
          have hlt9 : bn ≤ w9.heap.size := Nat.le_trans HSZV.out h9.size
          have hn9 := HNV.out.next h9
          have h := span_any w9 ⟨w9.heap.size, 0, 0, 0, 0, 0, 0, T, st, N', S', RA, rc, R, LA, lc, L, FA, nf, fc, some ⟨gx, 0, none⟩, cA, xs, f, tt⟩
            ⟨HRO.out, HLO.out, fun x => atC_nrm HI1.out.nrm x, hft, htS, (by show N' ≤ 1000; omega), (by show S' ≤ 200; omega), (by show R.length ≤ 600; rw [HRL.out]; omega), (by show L.length ≤ 10000; rw [HLL.out]; omega), (by show xs.length ≤ 1000000000; rw [hlen]; exact HNCB.out.1), hn9.lt⟩ rfl
            (by show Reads w9 w9.heap.size 6 RA R.length (rls R); rw [HRL.out]; exact (HR.out.below hx9).more hlt9)
            (by show Reads w9 w9.heap.size 5 LA L.length (ars L); rw [HLL.out]; exact (HL.out.below hx9).more hlt9)
            (by show Reads w9 w9.heap.size 4 (some ⟨gx, 0, none⟩) xs.length (cls xs); rw [hlen]; exact hm9.kx.reads)
            hn9
          dsimp only at h
          rw [HRL.out, HLL.out, hlen] at h
          refine h.mono ?_
          rintro e w' ⟨A, c, U, he, h1, h2, h3⟩
          exact ⟨A, c, U, he, h1, h2, h3⟩
        have HSC : Hid (∀ (w9 : World) (A : Option Addr) (c : Nat) (U : Nat → Vl), Below wv.heap.size wv w9 → Reads w9 w9.heap.size 4 A N' (cls ((List.range N').map (cel R L f tt (CC N' S' xs) U))) → SSol R L f tt (CC N' S' xs) U → ∀ cc, Calls Tryd.prog 21 #[.slice A N' c, .slice (some ⟨g, z * 4, none⟩) N' cc] w9 fun e w' => e = .returned (.bool true) ∧ Below w9.heap.size w9 w') := fun w9 A c U h9 hr hs cc => by
          have hm9 := HMV.out.next h9
          have ha := HI1.out.agree
          have hsub : (cs.drop z).take N' = (List.range N').map (cel R L f tt (CC N' S' xs) U) := by
            obtain ⟨U', h1, h2⟩ := Chart.span HCH.out hft htS
            rw [HZ.out] at h2
            have e : U' = U := (h1.agree HRO.out hft ha).uniq hs
            refine sub_eq (by simp) fun j hj => ?_
            rw [h2 j hj, List.getElem?_map, List.getElem?_range hj, e, cel_agree HRO.out hft ha]
            rfl
          have hg := (Reads.of_cls hm9.kg HLC.out).sub z N' hroom
          rw [hsub, Nat.zero_add] at hg
          have hsb := HSB.out
          exact samecells_any w9 _ _ N' c cc w9.heap.size _ hr hg (by omega)
        have H9 : Hid (∀ w9, Below wv.heap.size wv w9 → w9.cell? ⟨bn, 0, none⟩ = some (.int .i64 T) ∧ w9.cell? ⟨bn, 1, none⟩ = some (.int .i64 N') ∧ w9.cell? ⟨bn, 2, none⟩ = some (.int .i64 st) ∧ w9.cell? ⟨bn, 3, none⟩ = some (.slice RA nR rc) ∧ w9.cell? ⟨bn + 1, 0, none⟩ = some (.int .i64 S') ∧ w9.cell? ⟨bn + 1, 1, none⟩ = some (.slice LA nL lc) ∧ w9.cell? ⟨bn + 1, 2, none⟩ = some (.slice FA nf fc) ∧ w9.cell? ⟨q, 0, none⟩ = some (.int .i64 N') ∧ w9.cell? ⟨q, 1, none⟩ = some (.int .i64 S') ∧ w9.cell? ⟨q, 2, none⟩ = some (.slice (some ⟨gx, 0, none⟩) nc' cA) ∧ w9.cell? ⟨p, 2, none⟩ = some (.slice (some ⟨g, 0, none⟩) nc' nc')) := fun w9 h9 => by
          have K := HMV.out.next h9
          have b1 := K.k1
          have b2 := K.k2
          rw [← HK.out.1] at b1
          rw [← HK.out.2] at b2
          exact ⟨b1.cell 0, b1.cell 1, b1.cell 2, b1.cell 3, b2.cell 0, b2.cell 1, b2.cell 2, K.kq.cell 0, K.kq.cell 1, K.kq.cell 2, K.kp.cell 2⟩
        have uo : IntKind.i64.wrap ((z : Int) + (N' : Int)) = (z : Int) + (N' : Int) := IntWalk.i64_in _ (by have := HNCB.out; omega)
        have k0 : (0 : Int) ≤ (z : Int) + (N' : Int) := by omega
        have k2 : (z : Int) ≤ (z : Int) + (N' : Int) := by omega
        have k3 : (z : Int) + (N' : Int) ≤ (nc' : Int) := by omega
        have k4 : ((z : Int) + (N' : Int)).toNat = z + N' := by omega
        have k5 : z + N' - z = N' := by omega
        have k6 : ¬ nc' = z := by have := HSB.out; omega
        have B8 : Below wv.heap.size wv wv.drew := (Below.refl _ _).drew
        simp only [slJ_eq]
        go_region_held3 (fun w9 => w9.cell? ⟨bn, 0, none⟩ = some (.int .i64 T) ∧ w9.cell? ⟨bn, 1, none⟩ = some (.int .i64 N') ∧ w9.cell? ⟨bn, 2, none⟩ = some (.int .i64 st) ∧ w9.cell? ⟨bn, 3, none⟩ = some (.slice RA nR rc) ∧ w9.cell? ⟨bn + 1, 0, none⟩ = some (.int .i64 S') ∧ w9.cell? ⟨bn + 1, 1, none⟩ = some (.slice LA nL lc) ∧ w9.cell? ⟨bn + 1, 2, none⟩ = some (.slice FA nf fc) ∧ w9.cell? ⟨q, 0, none⟩ = some (.int .i64 N') ∧ w9.cell? ⟨q, 1, none⟩ = some (.int .i64 S') ∧ w9.cell? ⟨q, 2, none⟩ = some (.slice (some ⟨gx, 0, none⟩) nc' cA) ∧ w9.cell? ⟨p, 2, none⟩ = some (.slice (some ⟨g, 0, none⟩) nc' nc'))
          (first | exact H9.out _ B8 | exact H9.out _ X2 | exact H9.out _ X5 | exact H9.out _ X6)
          (first
            | (go_at_call 12; (with_reducible refine (HAW.out _ B8).mono ?_); rintro e2 w2 ⟨rfl, hb2⟩; have X2 : Below wv.heap.size wv w2 := B8.trans (hb2.mono B8.size))
            | (go_at_call 23; (with_reducible refine (HSP.out _ X2).mono ?_); rintro e5 w5 ⟨A5, c5, U5, rfl, hr5, hs5, hb5⟩; have X5 : Below wv.heap.size wv w5 := X2.trans (hb5.mono X2.size))
            | (go_at_call 21; (with_reducible refine (HSC.out _ A5 c5 U5 X5 hr5 hs5 _).mono ?_); rintro e6 w6 ⟨rfl, hb6⟩; have X6 : Below wv.heap.size wv w6 := X5.trans (hb6.mono X5.size)))
        all_goals
          have HX6 : Hid (Below bn w w6) := HMV.out.below.trans (X6.mono HSZV.out)
          clear hb6
          go_wp2_with fail
          go_ret
          exact ⟨rfl, by rw [HBN.out]; exact HX6.out⟩
end Go.Proofs.YthakcefgbggkcaaDoor
