/- The hyperedges of an item are those of its instances, rule by rule. -/
import Derived.Test.YthakcefgbggkcaaDoorChKEd
import Derived.Deep.DeepCutAuto
namespace Go.Proofs.YthakcefgbggkcaaDoor
open Go.RowKit

theorem rl_hd {r : Rl} {N h : Nat} (h0 : r.Ok N) : r.hd = (h : Int) ↔ r.hd.toNat = h := by have := h0.hd; omega
/-- A label stored. -/
theorem ES.lab {w0 w : World} {v : Value} {P : List Pe} {g : Nat} {a0 a1 a2 a3 a4 : Value} (h : ES w0 w v P) (hg : Blk w g 50 #[a0, a1, a2, a3, a4]) (hne : v.ownBlock ≠ some g) (h0 : w0.heap.size ≤ g) (x y : Value) :
    ES w0 ((w.setCell ⟨g, 3, none⟩ x).setCell ⟨g, 4, none⟩ y) v P ∧ Blk ((w.setCell ⟨g, 3, none⟩ x).setCell ⟨g, 4, none⟩ y) g 50 #[a0, a1, a2, x, y] := by
  have k1 := hg.set_ 3 x
  simp at k1
  have k2 := k1.set_ 4 y
  simp at k2
  exact ⟨(h.set hg hne h0 3 x).set k1 hne h0 4 y, k2⟩
theorem ES.ne_blk {w0 w : World} {v : Value} {P : List Pe} {g : Nat} {t : TypeId} {cs : Array Value} (h : ES w0 w v P) (hg : Blk w g t cs) (hne : 50 ≠ t) : v.ownBlock ≠ some g :=
  let ⟨_, _, h2, _⟩ := h.ex
  own_blk_ne h2 hg hne
theorem insPe_p {N S : Nat} {n : Int} {k : Nat} {r : Rl} (h : r.Ok N) (arg : Int) (us : List It) : insPe N S n k ⟨arg, r.p, us⟩ = ⟨n, us.map (nd N S), r.p, k, arg⟩ := by
  have := h.p
  unfold insPe
  simp only
  rw [show min r.p 1099511627776 = r.p by omega]
theorem nd_at {N S s m a : Nat} {ra : Int} (h : ra = (a : Int)) : nd N S ⟨ra, s, m⟩ = ((cix S s m * N + a : Nat) : Int) := by
  unfold nd
  simp only [h, Int.toNat_natCast]
theorem arcsN_no {L : List Ar} {s t : Nat} {r : Rl} {n : Nat} {a : Ar} (h : L[n]? = some a) (hf : a.fits s t r.a = false) : arcsN L s t r (n + 1) = arcsN L s t r n := by
  rw [arcsN_step h, if_neg (by rw [hf]; decide), List.append_nil]
theorem arcsN_yes {L : List Ar} {s t : Nat} {r : Rl} {n : Nat} {a : Ar} (h : L[n]? = some a) (hf : a.fits s t r.a = true) : arcsN L s t r (n + 1) = arcsN L s t r n ++ [⟨n, r.p + a.co, []⟩] := by
  rw [arcsN_step h, if_pos hf]
set_option maxRecDepth 100000 in
set_option maxHeartbeats 8000000 in
theorem edges_any (w : World) (T st : Int) (N S h s t nR rc nL lc nf fc B : Nat) (RA LA FA : Option Addr) (R : List Rl) (L : List Ar) (hR : Reads w B 6 RA nR (rls R)) (hL : Reads w B 5 LA nL (ars L)) (hB : B ≤ w.heap.size) (hRo : ∀ r ∈ R, r.Ok N) (hLo : ArsOk S L) (hh : h < N) (hst : s ≤ t) (htS : t < S) (hN : N ≤ 10) (hS : S ≤ 9) (hnR : nR ≤ 14) (hnL : nL ≤ 40) :
    Calls Tryd.prog 35 #[.agg #[.int .i64 T, .int .i64 N, .int .i64 st, .slice RA nR rc], .agg #[.int .i64 S, .slice LA nL lc, .slice FA nf fc], .agg #[.int .i64 h, .int .i64 s, .int .i64 t]] w (RetEs w (hgK N S R L s t h (cix S s t * N + h : Nat) nR)) := by
  obtain ⟨b, hb⟩ : ∃ b, w.heap.size = b := ⟨_, rfl⟩
  obtain ⟨W, hW⟩ : ∃ W, ((w.alloc (.cells #[.int .i64 T, .int .i64 N, .int .i64 st, .slice RA nR rc] 24)).alloc (.cells #[.int .i64 S, .slice LA nL lc, .slice FA nf fc] 28)).alloc (.cells #[.int .i64 h, .int .i64 s, .int .i64 t] 61) = W := ⟨_, rfl⟩
  have K1 : Blk W b 24 #[.int .i64 T, .int .i64 N, .int .i64 st, .slice RA nR rc] := by rw [← hW]; exact ((Blk.new' _ _ _ hb).alloc _).alloc _
  have K2 : Blk W (b + 1) 28 #[.int .i64 S, .slice LA nL lc, .slice FA nf fc] := by rw [← hW]; exact (Blk.new' _ _ _ (by simp; omega)).alloc _
  have K3 : Blk W (b + 1 + 1) 61 #[.int .i64 h, .int .i64 s, .int .i64 t] := by rw [← hW]; exact Blk.new' _ _ _ (by simp; omega)
  have hBW : Below w.heap.size w W := by rw [← hW]; exact (((Below.refl _ _).alloc (Nat.le_refl _) _).alloc (by simp) _).alloc (by simp; omega) _
  have HH : Hid (∀ w9, Below W.heap.size W w9 → (w9.cell? ⟨b, 0, none⟩ = some (.int .i64 T) ∧ w9.cell? ⟨b, 1, none⟩ = some (.int .i64 N) ∧ w9.cell? ⟨b, 2, none⟩ = some (.int .i64 st) ∧ w9.cell? ⟨b, 3, none⟩ = some (.slice RA nR rc)) ∧ (w9.cell? ⟨b + 1, 0, none⟩ = some (.int .i64 S) ∧ w9.cell? ⟨b + 1, 1, none⟩ = some (.slice LA nL lc) ∧ w9.cell? ⟨b + 1, 2, none⟩ = some (.slice FA nf fc)) ∧ w9.cell? ⟨b + 1 + 1, 0, none⟩ = some (.int .i64 h) ∧ w9.cell? ⟨b + 1 + 1, 1, none⟩ = some (.int .i64 s) ∧ w9.cell? ⟨b + 1 + 1, 2, none⟩ = some (.int .i64 t)) := fun w9 h9 => by
    have k1 := K1.below h9 K1.lt
    have k2 := K2.below h9 K2.lt
    have k3 := K3.below h9 K3.lt
    exact ⟨⟨k1.cell 0, k1.cell 1, k1.cell 2, k1.cell 3⟩, ⟨k2.cell 0, k2.cell 1, k2.cell 2⟩, k3.cell 0, k3.cell 1, k3.cell 2⟩
  have HR := Lib.hid ((hR.below (hBW.mono hB)).more (Nat.le_trans hB hBW.size))
  have HL := Lib.hid ((hL.below (hBW.mono hB)).more (Nat.le_trans hB hBW.size))
  have HRL := Lib.hid hR.len_rls
  have HLL := Lib.hid hL.len_ars
  have HRO := Lib.hid hRo
  have HLO := Lib.hid hLo
  have HBW := Lib.hid hBW
  have HW := Lib.hid hW
  have HBB := Lib.hid hb
  have HST := Lib.hid (And.intro hh (And.intro hst (And.intro htS (And.intro hN hS))))
  obtain ⟨n, hn⟩ : ∃ n, cix S s t * N + h = n := ⟨_, rfl⟩
  have HI0 : Hid (∀ w9, Calls Tryd.prog 37 #[.agg #[.int .i64 T, .int .i64 N, .int .i64 st, .slice RA nR rc], .agg #[.int .i64 S, .slice LA nL lc, .slice FA nf fc], .agg #[.int .i64 h, .int .i64 s, .int .i64 t]] w9 fun e w' => e = .returned (.tuple #[.int .i64 (n : Nat), .bool true]) ∧ Below w9.heap.size w9 w') := fun w9 => by
    rw [← hn]; exact index_any w9 T st N S h s t nR rc nL lc nf fc RA LA FA hh hst htS (by omega) (by omega)
  rw [hn]
  obtain ⟨⟨n0, n1, n2, n3⟩, ⟨l0, l1, l2⟩, i0, i1, i2⟩ := HH.out W (Below.refl _ _)
  clear hW hBW K1 K2 K3 hR hL hB hRo hLo hb hn
  go_enter Tryd.func35, Tryd.ntmps35
  go_upto_region 1 with fail
  try rw [HBB.out]
  rw [HW.out]
  go_wp2_with fail
  refine (HI0.out _).mono ?_
  rintro e w1 ⟨rfl, hb1⟩
  have HE1 : Hid (ES W w1 (.slice none 0 0) (hgK N S R L s t h n 0)) := (ES.start W).next hb1
  clear n0 n1 n2 n3 l0 l1 l2 i0 i1 i2 hb1
  go_upto_region 4 with fail
  go_loopw [7, 10] (fun v x wr => ∃ k : Nat, k ≤ nR ∧ x = .int .i64 k ∧ ∃ A m c, v = .slice A m c ∧ Hid (ES W wr (.slice A m c) (hgK N S R L s t h n k))) (fun _ x _ => nR - (intOf x).toNat)
  case atStart => exact ⟨0, Nat.zero_le _, rfl, none, 0, 0, rfl, HE1⟩
  case round =>
    obtain ⟨k, hk, rfl, A, m, c, rfl, HE⟩ := hrel
    clear HE1
    obtain ⟨⟨n0, n1, n2, n3⟩, ⟨l0, l1, l2⟩, i0, i1, i2⟩ := HH.out _ HE.out.bl
    have uk : IntKind.i64.wrap ((k : Int) + 1) = (k : Int) + 1 := IntWalk.i64_in _ (by omega)
    by_cases hlt : k < nR
    case neg =>
      have hltD : decide (k < nR) = false := by simp [hlt]
      obtain rfl : nR = k := by omega
      have HRET : Hid (RetEs w (hgK N S R L s t h n nR) (.returned (.slice A m c)) wr) := HE.out.ret HBW.out
      clear n0 n1 n2 l0 l1 l2 i0 i1 i2
      go_wp2_with fail
      go_ret
      exact HRET.out
    case pos =>
      have hltD : decide (k < nR) = true := by simp [hlt]
      have hltI : (k : Int) < (nR : Int) := by omega
      have hkI : (0 : Int) ≤ (k : Int) := by omega
      have hPl : (hgK N S R L s t h n k).length ≤ 14 * 51 := by
        have h1 := hgK_len (N := N) (S := S) (R := R) (L := L) (s := s) (t := t) (h := h) (n := n) k
        have h2 : k * (L.length + t + 2) ≤ 14 * 51 := Nat.mul_le_mul (by omega) (by have := HLL.out; omega)
        omega
      have HPL := Lib.hid hPl
      obtain ⟨br, offr, r, hA, _, hr, p0, p1, p2, p3, p4, p5⟩ := (HR.out.below HE.out.bl).rl_at hlt
      have hro := HRO.out r (List.mem_of_getElem? hr)
      have HRI := Lib.hid hr
      rw [hA] at n3
      obtain ⟨bu, hbu⟩ : ∃ bu, wr.heap.size = bu := ⟨_, rfl⟩
      obtain ⟨w4, hw4⟩ : ∃ w4, wr.alloc (.cells #[.int .i64 r.k, .int .i64 r.hd, .int .i64 r.a, .int .i64 r.b, .int .i64 r.p, .int .i64 r.o] 65) = w4 := ⟨_, rfl⟩
      have hb4 : Below wr.heap.size wr w4 := by rw [← hw4]; exact (Below.refl _ _).alloc (Nat.le_refl _) _
      have KU : Blk w4 bu 65 #[.int .i64 r.k, .int .i64 r.hd, .int .i64 r.a, .int .i64 r.b, .int .i64 r.p, .int .i64 r.o] := by rw [← hw4]; exact Blk.new' _ _ _ hbu
      have HKU := Lib.hid KU
      have HE4 := Lib.hid (HE.out.next hb4)
      have HSU : Hid (W.heap.size ≤ bu ∧ w4.heap.size = bu + 1) := ⟨by have := HE.out.bl.size; omega, by rw [← hw4]; simp; omega⟩
      have HRO1 := Lib.hid hro
      have HW4 := Lib.hid hw4
      have HBU := Lib.hid hbu
      clear hw4 hbu hb4 KU
      go_upto_region 7 with fail
      rw [HW4.out]
      try rw [HBU.out]
      clear p0 p1 p2 p3 p4 p5 hA n0 n1 n2 n3 l0 l1 l2 i0 i1 i2
      obtain ⟨⟨n0, n1, n2, n3⟩, ⟨l0, l1, l2⟩, i0, i1, i2⟩ := HH.out _ HE4.out.bl
      have v0 := HKU.out.cell 0
      have v1 := HKU.out.cell 1
      have v2 := HKU.out.cell 2
      have v3 := HKU.out.cell 3
      have v4 := HKU.out.cell 4
      simp at v0 v1 v2 v3 v4
      by_cases hhd : r.hd = (h : Int)
      case neg =>
        have D1 : (r.hd != (h : Int)) = true := by simp [hhd]
        have D2 : (r.hd == (h : Int)) = false := by simp [hhd]
        have HNX := Lib.hid (hgK_no (N := N) (S := S) (L := L) (s := s) (t := t) (n := n) HRI.out (fun e => hhd ((rl_hd HRO1.out).2 e)))
        clear hhd n0 n1 n2 n3 l0 l1 l2 i1 i2
        go_wp2_with fail
        go_roundw
        case rel => exact ⟨k + 1, by omega, by go_num, A, m, c, rfl, by rw [HNX.out]; exact HE4.out⟩
        case measure => simp [intOf]; omega
      case pos =>
      have D1 : (r.hd != (h : Int)) = false := by simp [hhd]
      have D2 : (r.hd == (h : Int)) = true := by simp [hhd]
      have HNX := Lib.hid (hgK_yes (N := N) (S := S) (L := L) (s := s) (t := t) (n := n) HRI.out ((rl_hd HRO1.out).1 hhd))
      obtain ⟨be, hbe⟩ : ∃ be, bu + 1 = be := ⟨_, rfl⟩
      obtain ⟨w5, hw5⟩ : ∃ w5, w4.alloc (.cells #[.int .i64 n, .slice none 0 0, .int .i64 r.p, .int .i64 0, .int .i64 0] 50) = w5 := ⟨_, rfl⟩
      have hb5 : Below w4.heap.size w4 w5 := by rw [← hw5]; exact (Below.refl _ _).alloc (Nat.le_refl _) _
      have hsz4 : w4.heap.size = be := by rw [HSU.out.2, hbe]
      have KE : Blk w5 be 50 #[.int .i64 n, .slice none 0 0, .int .i64 r.p, .int .i64 0, .int .i64 0] := by rw [← hw5]; exact Blk.new' _ _ _ hsz4
      have HKE := Lib.hid KE
      have HKU5 := Lib.hid (HKU.out.below hb5 HKU.out.lt)
      have HE5 := Lib.hid (HE4.out.next hb5)
      have HNE : Hid ((Value.slice A m c).ownBlock ≠ some be) := HE4.out.lt (by omega)
      have HBE : Hid (W.heap.size ≤ be ∧ bu < be) := ⟨by have := HSU.out.1; omega, by omega⟩
      have HW5 := Lib.hid hw5
      have HS4 := Lib.hid hsz4
      clear hw5 hb5 KE hsz4 hbe hhd
      go_upto_region 9 with fail
      rw [HW5.out]
      rw [HS4.out]
      clear n0 n1 n2 n3 l0 l1 l2 i0 i1 i2 v0 v1 v2 v3 v4
      obtain ⟨⟨n0, n1, n2, n3⟩, ⟨l0, l1, l2⟩, i0, i1, i2⟩ := HH.out _ HE5.out.bl
      have v0 := HKU5.out.cell 0
      have v1 := HKU5.out.cell 1
      have v2 := HKU5.out.cell 2
      have v3 := HKU5.out.cell 3
      have v4 := HKU5.out.cell 4
      simp at v0 v1 v2 v3 v4
      have e0 := HKE.out.cell 0
      have e1 := HKE.out.cell 1
      have e2 := HKE.out.cell 2
      have e3 := HKE.out.cell 3
      have e4 := HKE.out.cell 4
      simp at e0 e1 e2 e3 e4
      have z1 := HKE.out.frozen 1
      have z2 := HKE.out.frozen 2
      have z3 := HKE.out.frozen 3
      have z4 := HKE.out.frozen 4
      have hkk := HRO1.out.k
      by_cases hk1 : r.k = 1
      case pos =>
        rw [hk1] at v0
        by_cases hseq : s = t
        case neg =>
          have D3 : decide (s = t) = false := by simp [hseq]
          have D4 : (s == t) = false := by simp [hseq]
          have D5 : ((s : Int) == (t : Int)) = false := by simp; omega
          have hn : hgK N S R L s t h n (k + 1) = hgK N S R L s t h n k := by rw [HNX.out, insts_empty_no hk1 hseq]; simp
          have HN2 := Lib.hid hn
          clear hseq hkk hk1 hn e0 e1 e2 e3 e4 z1 z2 z3 z4 n0 n1 n2 n3 l0 l1 l2 i0
          go_wp2_with fail
          go_roundw
          case rel => exact ⟨k + 1, by omega, by go_num, A, m, c, rfl, by rw [HN2.out]; exact HE5.out⟩
          case measure => simp [intOf]; omega
        case pos =>
          have D3 : decide (s = t) = true := by simp [hseq]
          have D4 : (s == t) = true := by simp [hseq]
          have D5 : ((s : Int) == (t : Int)) = true := by simp; omega
          have hn : hgK N S R L s t h n (k + 1) = hgK N S R L s t h n k ++ [⟨n, [], r.p, k, s⟩] := by
            rw [HNX.out, insts_empty_yes hk1 hseq, List.map_cons, List.map_nil, insPe_p HRO1.out]; rfl
          have HN2 := Lib.hid hn
          obtain ⟨hes, kes⟩ := HE5.out.lab HKE.out HNE.out HBE.out.1 (.int .i64 k) (.int .i64 s)
          have HES := Lib.hid hes
          have HKS := Lib.hid kes
          clear hseq hkk hk1 hn hes kes n0 n1 n2 n3 l0 l1 l2 i0
          go_upto_region 13 with fail
          obtain ⟨w6, hw6⟩ : ∃ w6, (w5.setCell ⟨be, 3, none⟩ (.int .i64 k)).setCell ⟨be, 4, none⟩ (.int .i64 s) = w6 := ⟨_, rfl⟩
          rw [hw6] at HES HKS
          rw [hw6]
          clear hw6 D3 D4 D5 e0 e1 e2 e3 e4 z1 z2 z3 z4 v0 v1 v2 v3 v4 i1 i2
          have HT6 : Hid (EdT1 w6 ⟨n, [], r.p, k, s, none, 0⟩) := EdT1.nil _ _ _ _ _
          have x0 := HKS.out.cell 0
          have x1 := HKS.out.cell 1
          have x2 := HKS.out.cell 2
          have x3 := HKS.out.cell 3
          have x4 := HKS.out.cell 4
          simp at x0 x1 x2 x3 x4
          go_wp2_with (at_builtin; go_must (refine wpList_push_ed (by rfl) _ _ (by rfl) _ (by rfl) W w6 _ ⟨n, [], r.p, k, s, none, 0⟩ HES.out HT6.out (by have := HPL.out; (try simp only [List.length_append, List.length_map]); (try have := HQL.out); omega) (by rfl) ?_; intro A9 n9 c9 w9 hes9 hb9 hne9 hk9 hs9; have HES9 := Lib.hid hes9; have HB9 := Lib.hid hb9; have HNE9 := Lib.hid hne9; have HK9 := Lib.hid hk9; have HS9 := Lib.hid hs9; clear hes9 hb9 hne9 hk9 hs9 x0 x1 x2 x3 x4))
          go_roundw
          case rel => exact ⟨k + 1, by omega, by go_num, A9, n9, c9, rfl, by rw [HN2.out]; exact HES9.out⟩
          case measure => simp [intOf]; omega
      case neg =>
      by_cases hk3 : r.k = 3
      case pos =>
        have ha3 : 0 ≤ r.a ∧ r.a < N := by rcases hkk with h1 | h1 | h1 <;> omega
        obtain ⟨a', ha'⟩ : ∃ a' : Nat, r.a = (a' : Int) := ⟨r.a.toNat, by omega⟩
        have haN : a' < N := by omega
        rw [hk3] at v0
        rw [ha'] at v2
        obtain ⟨ia, hia⟩ : ∃ ia, cix S s t * N + a' = ia := ⟨_, rfl⟩
        have HI1 : Hid (∀ w9, Calls Tryd.prog 37 #[.agg #[.int .i64 T, .int .i64 N, .int .i64 st, .slice RA nR rc], .agg #[.int .i64 S, .slice LA nL lc, .slice FA nf fc], .agg #[.int .i64 (a' : Int), .int .i64 s, .int .i64 t]] w9 fun e w' => e = .returned (.tuple #[.int .i64 (ia : Nat), .bool true]) ∧ Below w9.heap.size w9 w') := fun w9 => by
          rw [← hia]; exact index_any w9 T st N S a' s t nR rc nL lc nf fc RA LA FA haN hst htS (by omega) (by omega)
        have hn : hgK N S R L s t h n (k + 1) = hgK N S R L s t h n k ++ [⟨n, [(ia : Int)], r.p, k, s⟩] := by
          rw [HNX.out, insts_unary hk3, List.map_cons, List.map_nil, insPe_p HRO1.out, List.map_cons, List.map_nil, nd_at ha', hia]
        have HN2 := Lib.hid hn
        have HBE2 := Lib.hid (HKE.out.lt)
        clear hkk hk1 hk3 ha3 ha' haN hn hia e0 e1 e2 e3 e4 z1 z2 z3 z4
        go_upto_region 24 with fail
        go_wp2_with fail
        refine (HI1.out _).mono ?_
        rintro e w50 ⟨rfl, hb50⟩
        clear n0 n1 n2 n3 l0 l1 l2 i0 i1 i2 v0 v1 v2 v3 v4
        have HE50 := Lib.hid (HE5.out.next hb50)
        have HKE50 := Lib.hid (HKE.out.below hb50 HKE.out.lt)
        clear hb50
        obtain ⟨_, _, i0, i1, i2⟩ := HH.out _ HE50.out.bl
        obtain ⟨hes, kes⟩ := HE50.out.lab HKE50.out HNE.out HBE.out.1 (.int .i64 k) (.int .i64 s)
        obtain ⟨w51, hw51⟩ : ∃ w51, (w50.setCell ⟨be, 3, none⟩ (.int .i64 k)).setCell ⟨be, 4, none⟩ (.int .i64 s) = w51 := ⟨_, rfl⟩
        rw [hw51] at hes kes
        have HW51 := Lib.hid hw51
        have HESa := Lib.hid hes
        have HKSa := Lib.hid kes
        have e0 := HKE50.out.cell 0
        have e1 := HKE50.out.cell 1
        have e2 := HKE50.out.cell 2
        have e3 := HKE50.out.cell 3
        have e4 := HKE50.out.cell 4
        simp at e0 e1 e2 e3 e4
        have z1 := HKE50.out.frozen 1
        have z2 := HKE50.out.frozen 2
        have z3 := HKE50.out.frozen 3
        have z4 := HKE50.out.frozen 4
        clear hw51 hes kes
        go_upto_region 26 with fail
        rw [HW51.out]
        clear e0 e1 e2 e3 e4 z1 z2 z3 z4 i0 i1 i2
        obtain ⟨g, hg⟩ : ∃ g, w51.heap.size = g := ⟨_, rfl⟩
        have hb52 : Below w51.heap.size w51 (w51.alloc (.cells #[.int .i64 (ia : Int)] 3)) := (Below.refl _ _).alloc (Nat.le_refl _) _
        have ke52 := HKSa.out.below hb52 HKSa.out.lt
        have HES : Hid (ES W ((w51.alloc (.cells #[.int .i64 (ia : Int)] 3)).setCell ⟨be, 1, none⟩ (.slice (some ⟨g, 0, none⟩) 1 1)) _ _) := (HESa.out.next hb52).set ke52 HNE.out HBE.out.1 1 _
        have hks := ke52.set_ 1 (.slice (some ⟨g, 0, none⟩) 1 1)
        simp at hks
        have HKS := Lib.hid hks
        have HT6 : Hid (EdT1 ((w51.alloc (.cells #[.int .i64 (ia : Int)] 3)).setCell ⟨be, 1, none⟩ (.slice (some ⟨g, 0, none⟩) 1 1)) ⟨n, [(ia : Int)], r.p, k, s, some ⟨g, 0, none⟩, 1⟩) := (EdT1.new (ts := [(ia : Int)]) (Blk.new' _ _ _ hg) (by unfold maxLen; simp) _ _ _ _).set ke52 1 _
        have e1 := ke52.cell 1
        simp at e1
        have z1 := ke52.frozen 1
        have hbg : be < g := by have := HKSa.out.lt; omega
        have HG := Lib.hid hg
        clear hb52 ke52 hks hg
        go_upto_region 27 with fail
        rw [HG.out]
        obtain ⟨w6, hw6⟩ : ∃ w6, (w51.alloc (.cells #[.int .i64 (ia : Int)] 3)).setCell ⟨be, 1, none⟩ (.slice (some ⟨g, 0, none⟩) 1 1) = w6 := ⟨_, rfl⟩
        rw [hw6] at HES HKS HT6
        rw [hw6]
        clear hw6 e1 z1
        have x0 := HKS.out.cell 0
        have x1 := HKS.out.cell 1
        have x2 := HKS.out.cell 2
        have x3 := HKS.out.cell 3
        have x4 := HKS.out.cell 4
        simp at x0 x1 x2 x3 x4
        go_wp2_with (at_builtin; go_must (refine wpList_push_ed (by rfl) _ _ (by rfl) _ (by rfl) W w6 _ ⟨n, [(ia : Int)], r.p, k, s, some ⟨g, 0, none⟩, 1⟩ HES.out HT6.out (by have := HPL.out; (try simp only [List.length_append, List.length_map]); (try have := HQL.out); omega) (by rfl) ?_; intro A9 n9 c9 w9 hes9 hb9 hne9 hk9 hs9; have HES9 := Lib.hid hes9; have HB9 := Lib.hid hb9; have HNE9 := Lib.hid hne9; have HK9 := Lib.hid hk9; have HS9 := Lib.hid hs9; clear hes9 hb9 hne9 hk9 hs9 x0 x1 x2 x3 x4))
        go_roundw
        case rel => exact ⟨k + 1, by omega, by go_num, A9, n9, c9, rfl, by rw [HN2.out]; exact HES9.out⟩
        case measure => simp [intOf]; omega
      case neg =>
      by_cases hk4 : r.k = 4
      case pos =>
        have ha3 : (0 ≤ r.a ∧ r.a < N) ∧ 0 ≤ r.b ∧ r.b < N := by rcases hkk with h1 | h1 | h1 <;> omega
        obtain ⟨a', ha'⟩ : ∃ a' : Nat, r.a = (a' : Int) := ⟨r.a.toNat, by omega⟩
        obtain ⟨b', hb'⟩ : ∃ b' : Nat, r.b = (b' : Int) := ⟨r.b.toNat, by omega⟩
        have haN : a' < N := by omega
        have hbN : b' < N := by omega
        rw [hk4] at v0
        rw [ha'] at v2
        rw [hb'] at v3
        rw [hk4, ha', hb'] at HKU5
        have HAB := Lib.hid (And.intro ha' (And.intro hb' (And.intro haN hbN)))
        have hn : hgK N S R L s t h n (k + 1) = hgK N S R L s t h n k ++ (splN s t r (t + 1 - s)).map (insPe N S n k) := by rw [HNX.out, insts_binary hk4]
        have HN2 := Lib.hid hn
        have HE50 : Hid (ES W w5 (.slice A m c) (hgK N S R L s t h n k ++ (splN s t r (s - s)).map (insPe N S n k))) := by rw [Nat.sub_self]; show Hid (ES W w5 (.slice A m c) (hgK N S R L s t h n k ++ [])); rw [List.append_nil]; exact HE5
        clear hkk hk1 hk3 hk4 ha3 ha' hb' haN hbN hn e0 e1 e2 e3 e4 z1 z2 z3 z4
        go_upto_region 29 with fail
        go_upto_region 30 with fail
        clear n0 n1 n2 n3 l0 l1 l2 i0 i1 i2 v0 v1 v2 v3 v4
        go_loopw [7, 17] (fun v x wr => ∃ m : Nat, (s ≤ m ∧ m ≤ t + 1) ∧ x = .int .i64 m ∧ ∃ A2 m2 c2 x1 x3 x4, v = .slice A2 m2 c2 ∧ Hid (ES W wr (.slice A2 m2 c2) (hgK N S R L s t h n k ++ (splN s t r (m - s)).map (insPe N S n k))) ∧ Hid (Blk wr bu 65 #[.int .i64 4, .int .i64 r.hd, .int .i64 (a' : Int), .int .i64 (b' : Int), .int .i64 r.p, .int .i64 r.o]) ∧ Hid (Blk wr be 50 #[.int .i64 n, x1, .int .i64 r.p, x3, x4]) ∧ Hid ((Value.slice A2 m2 c2).ownBlock ≠ some be)) (fun _ x _ => t + 1 - (intOf x).toNat)
        case atStart => exact ⟨s, ⟨Nat.le_refl _, by have := HST.out; omega⟩, rfl, A, m, c, _, _, _, rfl, HE50, HKU5, HKE, HNE⟩
        case round =>
          obtain ⟨m, hm, rfl, A2, m2, c2, x1, x3, x4, rfl, HE6, HKU6, HKE6, HNE6⟩ := hrel
          clear HE50 HKU5 HKE HNE HE5
          obtain ⟨⟨n0, n1, n2, n3⟩, ⟨l0, l1, l2⟩, i0, i1, i2⟩ := HH.out _ HE6.out.bl
          by_cases hmt : m ≤ t
          case neg =>
            have D3 : decide (m ≤ t) = false := by simp [hmt]
            obtain rfl : m = t + 1 := by omega
            clear n0 n1 n2 n3 l0 l1 l2 i0
            go_wp2_with fail
            go_roundw
            case rel => exact ⟨k + 1, by omega, by go_num, A2, m2, c2, rfl, by rw [HN2.out]; exact HE6.out⟩
            case measure => simp [intOf]; omega
          case pos =>
            have D3 : decide (m ≤ t) = true := by simp [hmt]
            have um : IntKind.i64.wrap ((m : Int) + 1) = (m : Int) + 1 := IntWalk.i64_in _ (by have := HST.out; omega)
            obtain ⟨ia, hia⟩ : ∃ ia, cix S s m * N + a' = ia := ⟨_, rfl⟩
            obtain ⟨ib, hib⟩ : ∃ ib, cix S m t * N + b' = ib := ⟨_, rfl⟩
            have hst' := HST.out
            have HI1 : Hid (∀ w9, Calls Tryd.prog 37 #[.agg #[.int .i64 T, .int .i64 N, .int .i64 st, .slice RA nR rc], .agg #[.int .i64 S, .slice LA nL lc, .slice FA nf fc], .agg #[.int .i64 (a' : Int), .int .i64 s, .int .i64 m]] w9 fun e w' => e = .returned (.tuple #[.int .i64 (ia : Nat), .bool true]) ∧ Below w9.heap.size w9 w') := fun w9 => by
              rw [← hia]; exact index_any w9 T st N S a' s m nR rc nL lc nf fc RA LA FA HAB.out.2.2.1 hm.1 (by omega) (by omega) (by omega)
            have HI2 : Hid (∀ w9, Calls Tryd.prog 37 #[.agg #[.int .i64 T, .int .i64 N, .int .i64 st, .slice RA nR rc], .agg #[.int .i64 S, .slice LA nL lc, .slice FA nf fc], .agg #[.int .i64 (b' : Int), .int .i64 m, .int .i64 t]] w9 fun e w' => e = .returned (.tuple #[.int .i64 (ib : Nat), .bool true]) ∧ Below w9.heap.size w9 w') := fun w9 => by
              rw [← hib]; exact index_any w9 T st N S b' m t nR rc nL lc nf fc RA LA FA HAB.out.2.2.2 hmt (by omega) (by omega) (by omega)
            have hn2 : (splN s t r (m + 1 - s)).map (insPe N S n k) = (splN s t r (m - s)).map (insPe N S n k) ++ [⟨n, [(ia : Int), (ib : Int)], r.p, k, m⟩] := by
              rw [show m + 1 - s = (m - s) + 1 by omega, splN_step, List.map_append, List.map_cons, List.map_nil, insPe_p HRO1.out, List.map_cons, List.map_cons, List.map_nil, show s + (m - s) = m by omega, nd_at HAB.out.1, nd_at HAB.out.2.1, hia, hib]
            have HN3 := Lib.hid hn2
            have HQL : Hid ((splN s t r (m - s)).length ≤ 20) := by unfold splN; rw [List.length_map, List.length_range]; show m - s ≤ 20; omega
            have w0 := HKU6.out.cell 2
            have w1' := HKU6.out.cell 3
            simp at w0 w1'
            clear hn2 hia hib hst'
            go_upto_region 32 with fail
            go_wp2_with fail
            refine (HI1.out _).mono ?_
            rintro e w49 ⟨rfl, hb49⟩
            clear n0 n1 n2 n3 l0 l1 l2 i0 i1 i2 w0 w1'
            have HE49 := Lib.hid (HE6.out.next hb49)
            have HKE49 := Lib.hid (HKE6.out.below hb49 HKE6.out.lt)
            have HKU49 := Lib.hid (HKU6.out.below hb49 HKU6.out.lt)
            clear hb49
            obtain ⟨⟨n0, n1, n2, n3⟩, ⟨l0, l1, l2⟩, i0, i1, i2⟩ := HH.out _ HE49.out.bl
            have w0 := HKU49.out.cell 2
            have w1' := HKU49.out.cell 3
            simp at w0 w1'
            go_upto_region 33 with fail
            go_wp2_with fail
            refine (HI2.out _).mono ?_
            rintro e w50 ⟨rfl, hb50⟩
            clear n0 n1 n2 n3 l0 l1 l2 i0 i1 i2 w0 w1'
            have HE50 := Lib.hid (HE49.out.next hb50)
            have HKE50 := Lib.hid (HKE49.out.below hb50 HKE49.out.lt)
            have HKU50 := Lib.hid (HKU49.out.below hb50 HKU49.out.lt)
            clear hb50
            obtain ⟨_, _, i0, i1, i2⟩ := HH.out _ HE50.out.bl
            obtain ⟨hes, kes⟩ := HE50.out.lab HKE50.out HNE6.out HBE.out.1 (.int .i64 k) (.int .i64 m)
            have kus := (HKU50.out.far (p := ⟨be, 3, none⟩) (by have := HBE.out.2; show bu ≠ be; omega) (.int .i64 k)).far (p := ⟨be, 4, none⟩) (by have := HBE.out.2; show bu ≠ be; omega) (.int .i64 m)
            obtain ⟨w51, hw51⟩ : ∃ w51, (w50.setCell ⟨be, 3, none⟩ (.int .i64 k)).setCell ⟨be, 4, none⟩ (.int .i64 m) = w51 := ⟨_, rfl⟩
            rw [hw51] at hes kes kus
            have HW51 := Lib.hid hw51
            have HESa := Lib.hid hes
            have HKSa := Lib.hid kes
            have HKUa := Lib.hid kus
            have e0 := HKE50.out.cell 0
            have e1 := HKE50.out.cell 1
            have e2 := HKE50.out.cell 2
            have e3 := HKE50.out.cell 3
            have e4 := HKE50.out.cell 4
            simp at e0 e1 e2 e3 e4
            have z1 := HKE50.out.frozen 1
            have z2 := HKE50.out.frozen 2
            have z3 := HKE50.out.frozen 3
            have z4 := HKE50.out.frozen 4
            clear hw51 hes kes kus
            go_upto_region 35 with fail
            rw [HW51.out]
            clear e0 e1 e2 e3 e4 z1 z2 z3 z4 i0 i1 i2
            obtain ⟨g, hg⟩ : ∃ g, w51.heap.size = g := ⟨_, rfl⟩
            have hb52 : Below w51.heap.size w51 (w51.alloc (.cells #[.int .i64 (ia : Int), .int .i64 (ib : Int)] 3)) := (Below.refl _ _).alloc (Nat.le_refl _) _
            have ke52 := HKSa.out.below hb52 HKSa.out.lt
            have HES : Hid (ES W ((w51.alloc (.cells #[.int .i64 (ia : Int), .int .i64 (ib : Int)] 3)).setCell ⟨be, 1, none⟩ (.slice (some ⟨g, 0, none⟩) 2 2)) _ _) := (HESa.out.next hb52).set ke52 HNE6.out HBE.out.1 1 _
            have hks := ke52.set_ 1 (.slice (some ⟨g, 0, none⟩) 2 2)
            simp at hks
            have HKS := Lib.hid hks
            have HT6 : Hid (EdT1 ((w51.alloc (.cells #[.int .i64 (ia : Int), .int .i64 (ib : Int)] 3)).setCell ⟨be, 1, none⟩ (.slice (some ⟨g, 0, none⟩) 2 2)) ⟨n, [(ia : Int), (ib : Int)], r.p, k, m, some ⟨g, 0, none⟩, 2⟩) := (EdT1.new (ts := [(ia : Int), (ib : Int)]) (Blk.new' _ _ _ hg) (by unfold maxLen; simp) _ _ _ _).set ke52 1 _
            have hkux := (HKUa.out.alloc (.cells #[.int .i64 (ia : Int), .int .i64 (ib : Int)] 3)).far (p := ⟨be, 1, none⟩) (by have := HBE.out.2; show bu ≠ be; omega) (.slice (some ⟨g, 0, none⟩) 2 2)
            have HKU6X := Lib.hid hkux
            clear hkux
            have e1 := ke52.cell 1
            simp at e1
            have z1 := ke52.frozen 1
            have hbg : be < g := by have := HKSa.out.lt; omega
            have HG := Lib.hid hg
            clear hb52 ke52 hks hg
            go_upto_region 36 with fail
            rw [HG.out]
            obtain ⟨w6, hw6⟩ : ∃ w6, (w51.alloc (.cells #[.int .i64 (ia : Int), .int .i64 (ib : Int)] 3)).setCell ⟨be, 1, none⟩ (.slice (some ⟨g, 0, none⟩) 2 2) = w6 := ⟨_, rfl⟩
            rw [hw6] at HES HKS HT6 HKU6X
            rw [hw6]
            clear hw6 e1 z1
            have HNU : Hid ((Value.slice A2 m2 c2).ownBlock ≠ some bu) := HES.out.ne_blk HKU6X.out (by decide)
            have x0 := HKS.out.cell 0
            have x1 := HKS.out.cell 1
            have x2 := HKS.out.cell 2
            have x3 := HKS.out.cell 3
            have x4 := HKS.out.cell 4
            simp at x0 x1 x2 x3 x4
            go_wp2_with (at_builtin; go_must (refine wpList_push_ed (by rfl) _ _ (by rfl) _ (by rfl) W w6 _ ⟨n, [(ia : Int), (ib : Int)], r.p, k, m, some ⟨g, 0, none⟩, 2⟩ HES.out HT6.out (by have := HPL.out; (try simp only [List.length_append, List.length_map]); (try have := HQL.out); omega) (by rfl) ?_; intro A9 n9 c9 w9 hes9 hb9 hne9 hk9 hs9; have HES9 := Lib.hid hes9; have HB9 := Lib.hid hb9; have HNE9 := Lib.hid hne9; have HK9 := Lib.hid hk9; have HS9 := Lib.hid hs9; clear hes9 hb9 hne9 hk9 hs9 x0 x1 x2 x3 x4))
            go_roundw
            case rel =>
              have hbe9 := HKS.out.lt
              have hne9 := HNE9.out be hbe9 HNE6.out
              refine ⟨m + 1, ⟨by omega, by omega⟩, by go_num, A9, n9, c9, .slice (some ⟨g, 0, none⟩) 2 2, .int .i64 k, .int .i64 m, rfl, by rw [HN3.out, ← List.append_assoc]; exact HES9.out, ?_, ?_, hne9⟩
              · exact (HK9.out bu (HKU6X.out.lt) (HNU.out)).trans HKU6X.out
              · exact (HK9.out be hbe9 HNE6.out).trans HKS.out
            case measure => simp [intOf]; omega
      case neg =>
        have hk2 : r.k = 2 := by rcases hkk with h1 | h1 | h1 <;> omega
        rw [hk2] at v0 HKU5
        have hn : hgK N S R L s t h n (k + 1) = hgK N S R L s t h n k ++ (arcsN L s t r nL).map (insPe N S n k) := by rw [HNX.out, insts_arcs hk2, HLL.out]
        have HN2 := Lib.hid hn
        have HE50 : Hid (ES W w5 (.slice A m c) (hgK N S R L s t h n k ++ (arcsN L s t r 0).map (insPe N S n k))) := by show Hid (ES W w5 (.slice A m c) (hgK N S R L s t h n k ++ [])); rw [List.append_nil]; exact HE5
        clear hkk hk1 hk3 hk4 hk2 hn e0 e1 e2 e3 e4 z1 z2 z3 z4
        go_upto_region 15 with fail
        go_upto_region 16 with fail
        clear n0 n1 n2 n3 l0 l1 l2 i0 i1 i2 v0 v1 v2 v3 v4
        go_loopw [7, 13] (fun v x wr => ∃ m : Nat, m ≤ nL ∧ x = .int .i64 m ∧ ∃ A2 m2 c2 x2 x3 x4, v = .slice A2 m2 c2 ∧ Hid (ES W wr (.slice A2 m2 c2) (hgK N S R L s t h n k ++ (arcsN L s t r m).map (insPe N S n k))) ∧ Hid (Blk wr bu 65 #[.int .i64 2, .int .i64 r.hd, .int .i64 r.a, .int .i64 r.b, .int .i64 r.p, .int .i64 r.o]) ∧ Hid (Blk wr be 50 #[.int .i64 n, .slice none 0 0, .int .i64 x2, x3, x4]) ∧ Hid ((Value.slice A2 m2 c2).ownBlock ≠ some be)) (fun _ x _ => nL - (intOf x).toNat)
        case atStart => exact ⟨0, Nat.zero_le _, rfl, A, m, c, r.p, .int .i64 0, .int .i64 0, rfl, HE50, HKU5, HKE, HNE⟩
        case round =>
          obtain ⟨m, hm, rfl, A2, m2, c2, x2, x3, x4, rfl, HE6, HKU6, HKE6, HNE6⟩ := hrel
          clear HE50 HKU5 HKE HNE HE5
          obtain ⟨⟨n0, n1, n2, n3⟩, ⟨l0, l1, l2⟩, i0, i1, i2⟩ := HH.out _ HE6.out.bl
          by_cases hmt : m < nL
          case neg =>
            have D3 : decide (m < nL) = false := by simp [hmt]
            obtain rfl : nL = m := by omega
            clear n0 n1 n2 n3 l0 l2 i0 i1 i2
            go_wp2_with fail
            go_roundw
            case rel => exact ⟨k + 1, by omega, by go_num, A2, m2, c2, rfl, by rw [HN2.out]; exact HE6.out⟩
            case measure => simp [intOf]; omega
          case pos =>
            have D3 : decide (m < nL) = true := by simp [hmt]
            have hmI : (m : Int) < (nL : Int) := by omega
            have hm0 : (0 : Int) ≤ (m : Int) := by omega
            have um : IntKind.i64.wrap ((m : Int) + 1) = (m : Int) + 1 := IntWalk.i64_in _ (by omega)
            obtain ⟨ba, offa, a, hA, hba, hai, p0, p1, p2, p3, p4⟩ := (HL.out.below HE6.out.bl).ar_at hmt
            have hao := HLO.out.ok a (List.mem_of_getElem? hai)
            have HAI := Lib.hid hai
            have HAO := Lib.hid hao
            rw [hA] at l1
            obtain ⟨bc, hbc⟩ : ∃ bc, wr.heap.size = bc := ⟨_, rfl⟩
            obtain ⟨w6, hw6⟩ : ∃ w6, wr.alloc (.cells #[.int .i64 a.fr, .int .i64 a.tt, .int .i64 a.tm, .int .i64 a.co, .slice a.A a.n a.c] 68) = w6 := ⟨_, rfl⟩
            have hb6 : Below wr.heap.size wr w6 := by rw [← hw6]; exact (Below.refl _ _).alloc (Nat.le_refl _) _
            have K6 : Blk w6 bc 68 #[.int .i64 a.fr, .int .i64 a.tt, .int .i64 a.tm, .int .i64 a.co, .slice a.A a.n a.c] := by rw [← hw6]; exact Blk.new' _ _ _ hbc
            have HK6 := Lib.hid K6
            have HE7 := Lib.hid (HE6.out.next hb6)
            have HKU7 := Lib.hid (HKU6.out.below hb6 HKU6.out.lt)
            have HKE7 := Lib.hid (HKE6.out.below hb6 HKE6.out.lt)
            have HBC : Hid (be < bc) := by have := HKE6.out.lt; show be < bc; omega
            have HW6 := Lib.hid hw6
            have HBC2 := Lib.hid hbc
            have HQL : Hid ((arcsN L s t r m).length ≤ 50) := by have := arcsN_len L s t r m; show _ ≤ _; omega
            clear hA hba hai hao hw6 hb6 K6 hbc
            go_upto_region 19 with fail
            rw [HW6.out]
            rw [HBC2.out]
            clear p0 p1 p2 p3 p4 n0 n1 n2 n3 l0 l1 l2 i0 i1 i2
            obtain ⟨_, _, i0, i1, i2⟩ := HH.out _ HE7.out.bl
            have c0 := HK6.out.cell 0
            have c1 := HK6.out.cell 1
            have c2' := HK6.out.cell 2
            have c3 := HK6.out.cell 3
            simp at c0 c1 c2' c3
            have u2 := HKU7.out.cell 2
            have u4 := HKU7.out.cell 4
            simp at u2 u4
            by_cases hf1 : a.fr = (s : Int)
            case neg =>
              have F1 : (a.fr == (s : Int)) = false := by simp [hf1]
              have F1' : decide (a.fr = (s : Int)) = false := by simp [hf1]
              have HNO := Lib.hid (arcsN_no (t := t) (s := s) (r := r) HAI.out (by simp [Ar.fits, hf1]))
              clear hf1 i0 i2 c1 c2' c3 u2 u4
              go_wp2_with fail
              go_roundw
              case rel => exact ⟨m + 1, by omega, by go_num, A2, m2, c2, x2, x3, x4, rfl, by rw [HNO.out]; exact HE7.out, HKU7, HKE7, HNE6⟩
              case measure => simp [intOf]; omega
            case pos =>
            have F1 : (a.fr == (s : Int)) = true := by simp [hf1]
            have F1' : decide (a.fr = (s : Int)) = true := by simp [hf1]
            by_cases hf2 : a.tt = (t : Int)
            case neg =>
              have F2 : (a.tt == (t : Int)) = false := by simp [hf2]
              have F2' : decide (a.tt = (t : Int)) = false := by simp [hf2]
              have HNO := Lib.hid (arcsN_no (t := t) (s := s) (r := r) HAI.out (by simp [Ar.fits, hf1, hf2]))
              clear hf1 hf2 i0 c2' c3 u2 u4
              go_wp2_with fail
              go_roundw
              case rel => exact ⟨m + 1, by omega, by go_num, A2, m2, c2, x2, x3, x4, rfl, by rw [HNO.out]; exact HE7.out, HKU7, HKE7, HNE6⟩
              case measure => simp [intOf]; omega
            case pos =>
            have F2 : (a.tt == (t : Int)) = true := by simp [hf2]
            have F2' : decide (a.tt = (t : Int)) = true := by simp [hf2]
            by_cases hf3 : a.tm = r.a
            case neg =>
              have F3 : (a.tm == r.a) = false := by simp [hf3]
              have F3' : decide (a.tm = r.a) = false := by simp [hf3]
              have HNO := Lib.hid (arcsN_no (t := t) (s := s) (r := r) HAI.out (by simp [Ar.fits, hf1, hf2, hf3]))
              clear hf1 hf2 hf3 i0 c3 u4
              go_wp2_with fail
              go_roundw
              case rel => exact ⟨m + 1, by omega, by go_num, A2, m2, c2, x2, x3, x4, rfl, by rw [HNO.out]; exact HE7.out, HKU7, HKE7, HNE6⟩
              case measure => simp [intOf]; omega
            case pos =>
            have F3 : (a.tm == r.a) = true := by simp [hf3]
            have F3' : decide (a.tm = r.a) = true := by simp [hf3]
            have hn2 : (arcsN L s t r (m + 1)).map (insPe N S n k) = (arcsN L s t r m).map (insPe N S n k) ++ [⟨n, [], min (r.p + a.co) 1099511627776, k, m⟩] := by
              rw [arcsN_yes HAI.out (by simp [Ar.fits, hf1, hf2, hf3]), List.map_append]; rfl
            have HN3 := Lib.hid hn2
            have hrp := HRO1.out.p
            have hao := HAO.out
            have upc : IntKind.i64.wrap (r.p + a.co) = r.p + a.co := IntWalk.i64_in _ (by omega)
            obtain ⟨hes, kes⟩ := HE7.out.lab HKE7.out HNE6.out HBE.out.1 (.int .i64 k) (.int .i64 m)
            have kus := (HKU7.out.far (p := ⟨be, 3, none⟩) (by have := HBE.out.2; show bu ≠ be; omega) (.int .i64 k)).far (p := ⟨be, 4, none⟩) (by have := HBE.out.2; show bu ≠ be; omega) (.int .i64 m)
            have kcs := (HK6.out.far (p := ⟨be, 3, none⟩) (by have := HBC.out; show bc ≠ be; omega) (.int .i64 k)).far (p := ⟨be, 4, none⟩) (by have := HBC.out; show bc ≠ be; omega) (.int .i64 m)
            obtain ⟨w51, hw51⟩ : ∃ w51, (w6.setCell ⟨be, 3, none⟩ (.int .i64 k)).setCell ⟨be, 4, none⟩ (.int .i64 m) = w51 := ⟨_, rfl⟩
            rw [hw51] at hes kes kus kcs
            have HW51 := Lib.hid hw51
            have HESa := Lib.hid hes
            have HKSa := Lib.hid kes
            have HKUa := Lib.hid kus
            have HKCa := Lib.hid kcs
            have e0 := HKE7.out.cell 0
            have e1 := HKE7.out.cell 1
            have e2 := HKE7.out.cell 2
            have e3 := HKE7.out.cell 3
            have e4 := HKE7.out.cell 4
            simp at e0 e1 e2 e3 e4
            have z1 := HKE7.out.frozen 1
            have z2 := HKE7.out.frozen 2
            have z3 := HKE7.out.frozen 3
            have z4 := HKE7.out.frozen 4
            clear hw51 hes kes kus kcs hf1 hf2 hf3 hn2
            go_upto_region 21 with fail
            rw [HW51.out]
            clear e0 e1 e2 e3 e4 z1 z2 z3 z4 i0 i1 i2 c0 c1 c2' c3 u2 u4
            have y4 := HKUa.out.cell 4
            have y3 := HKCa.out.cell 3
            have y2 := HKSa.out.cell 2
            simp at y4 y3 y2
            have zz2 := HKSa.out.frozen 2
            obtain ⟨co, hco⟩ : ∃ co, min (r.p + a.co) 1099511627776 = co := ⟨_, rfl⟩
            have HCO := Lib.hid hco
            obtain ⟨wq, hwq⟩ : ∃ wq, w51.setCell ⟨be, 2, none⟩ (.int .i64 co) = wq := ⟨_, rfl⟩
            have hks := HKSa.out.set_ 2 (.int .i64 co)
            simp at hks
            have HES : Hid (ES W wq (.slice A2 m2 c2) (hgK N S R L s t h n k ++ (arcsN L s t r m).map (insPe N S n k))) := by rw [← hwq]; exact HESa.out.set HKSa.out HNE6.out HBE.out.1 2 _
            have HKS : Hid (Blk wq be 50 #[.int .i64 n, .slice none 0 0, .int .i64 co, .int .i64 k, .int .i64 m]) := by rw [← hwq]; exact hks
            have HKU6X : Hid (Blk wq bu 65 #[.int .i64 2, .int .i64 r.hd, .int .i64 r.a, .int .i64 r.b, .int .i64 r.p, .int .i64 r.o]) := by rw [← hwq]; exact HKUa.out.far (p := ⟨be, 2, none⟩) (by have := HBE.out.2; show bu ≠ be; omega) _
            have HNU : Hid ((Value.slice A2 m2 c2).ownBlock ≠ some bu) := HES.out.ne_blk HKU6X.out (by decide)
            have HWQ := Lib.hid hwq
            clear hks hwq hco
            go_upto_region 22 with fail
            try rw [HCO.out]
            rw [HWQ.out]
            clear y4 y3 y2 zz2 upc hrp hao
            have HT6 : Hid (EdT1 wq ⟨n, [], co, k, m, none, 0⟩) := EdT1.nil _ _ _ _ _
            have x0 := HKS.out.cell 0
            have x1 := HKS.out.cell 1
            have x2 := HKS.out.cell 2
            have x3 := HKS.out.cell 3
            have x4 := HKS.out.cell 4
            simp at x0 x1 x2 x3 x4
            go_wp2_with (at_builtin; go_must (refine wpList_push_ed (by rfl) _ _ (by rfl) _ (by rfl) W wq _ ⟨n, [], co, k, m, none, 0⟩ HES.out HT6.out (by have := HPL.out; (try simp only [List.length_append, List.length_map]); (try have := HQL.out); omega) (by rfl) ?_; intro A9 n9 c9 w9 hes9 hb9 hne9 hk9 hs9; have HES9 := Lib.hid hes9; have HB9 := Lib.hid hb9; have HNE9 := Lib.hid hne9; have HK9 := Lib.hid hk9; have HS9 := Lib.hid hs9; clear hes9 hb9 hne9 hk9 hs9 x0 x1 x2 x3 x4))
            go_roundw
            case rel =>
              have hbe9 := HKS.out.lt
              have hne9 := HNE9.out be hbe9 HNE6.out
              refine ⟨m + 1, by omega, by go_num, A9, n9, c9, co, .int .i64 k, .int .i64 m, rfl, by rw [HN3.out, HCO.out, ← List.append_assoc]; exact HES9.out, ?_, ?_, hne9⟩
              · exact (HK9.out bu (HKU6X.out.lt) (HNU.out)).trans HKU6X.out
              · exact (HK9.out be hbe9 HNE6.out).trans HKS.out
            case measure => simp [intOf]; omega
end Go.Proofs.YthakcefgbggkcaaDoor
