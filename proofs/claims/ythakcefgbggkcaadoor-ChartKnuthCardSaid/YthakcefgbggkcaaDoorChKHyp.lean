/- The reference's hypergraph: the hyperedges of the items, span by span, then those of the goal. -/
import Derived.Test.YthakcefgbggkcaaDoorChKEdges
namespace Go.Proofs.YthakcefgbggkcaaDoor
open Go.RowKit

def hgH (N S : Nat) (R : List Rl) (L : List Ar) (s t j : Nat) : List Pe := (List.range j).flatMap fun h => hgK N S R L s t h (cix S s t * N + h : Nat) R.length
def hgT (N S : Nat) (R : List Rl) (L : List Ar) (s j : Nat) : List Pe := (List.range j).flatMap fun d => hgH N S R L s (s + d) N
def hgS (N S : Nat) (R : List Rl) (L : List Ar) (j : Nat) : List Pe := (List.range j).flatMap fun s => hgT N S R L s (S - s)
def hgG (N S st : Nat) (fs : List Int) (j : Nat) : List Pe := (List.range j).flatMap fun t => if fs[t]?.getD 0 < 1099511627776 then [⟨(tri S S * N : Nat), [(cix S 0 t * N + st : Nat)], fs[t]?.getD 0, -1, t⟩] else []
theorem flat_succ {α : Type} (f : Nat → List α) (j : Nat) : (List.range (j + 1)).flatMap f = (List.range j).flatMap f ++ f j := by
  rw [List.range_succ, List.flatMap_append]; simp
theorem flat_bd {α : Type} {f : Nat → List α} {b : Nat} (h : ∀ i, (f i).length ≤ b) : ∀ j, ((List.range j).flatMap f).length ≤ j * b
  | 0 => by simp
  | j + 1 => by
    have ih := flat_bd h j
    have := h j
    have e : (j + 1) * b = j * b + b := Nat.succ_mul _ _
    rw [flat_succ, List.length_append]
    omega
theorem flat_bd' {α : Type} {f : Nat → List α} {b m : Nat} (h : ∀ i < m, (f i).length ≤ b) : ∀ j, j ≤ m → ((List.range j).flatMap f).length ≤ j * b
  | 0, _ => by simp
  | j + 1, hj => by
    have ih := flat_bd' h j (by omega)
    have := h j (by omega)
    have e : (j + 1) * b = j * b + b := Nat.succ_mul _ _
    rw [flat_succ, List.length_append]
    omega
section
variable {N S st : Nat} {R : List Rl} {L : List Ar} {fs : List Int}
theorem hgK_bd (s t h : Nat) (n : Int) (hR : R.length ≤ 14) (hL : L.length ≤ 40) (ht : t ≤ 9) : (hgK N S R L s t h n R.length).length ≤ 714 := by
  have h1 := hgK_len (N := N) (S := S) (R := R) (L := L) (s := s) (t := t) (h := h) (n := n) R.length
  have h2 : R.length * (L.length + t + 2) ≤ 14 * 51 := Nat.mul_le_mul hR (by omega)
  omega
theorem hgH_bd (s t j : Nat) (hR : R.length ≤ 14) (hL : L.length ≤ 40) (ht : t ≤ 9) (hj : j ≤ 10) : (hgH N S R L s t j).length ≤ 7140 := by
  have := flat_bd (f := fun h => hgK N S R L s t h (cix S s t * N + h : Nat) R.length) (fun h => hgK_bd s t h _ hR hL ht) j
  unfold hgH
  omega
theorem hgT_bd (s j : Nat) (hR : R.length ≤ 14) (hL : L.length ≤ 40) (hN : N ≤ 10) (hj : s + j ≤ 9) : (hgT N S R L s j).length ≤ 64260 := by
  have := flat_bd' (f := fun d => hgH N S R L s (s + d) N) (m := j) (fun d hd => hgH_bd s (s + d) N hR hL (by omega) hN) j (Nat.le_refl _)
  unfold hgT
  omega
theorem hgS_bd (j : Nat) (hR : R.length ≤ 14) (hL : L.length ≤ 40) (hN : N ≤ 10) (hS : S ≤ 9) (hj : j ≤ S) : (hgS N S R L j).length ≤ 578340 := by
  have := flat_bd' (f := fun s => hgT N S R L s (S - s)) (m := S) (fun s hs => hgT_bd s (S - s) hR hL hN (by omega)) j hj
  unfold hgS
  omega
theorem hgG_bd (j : Nat) : (hgG N S st fs j).length ≤ j := by
  have := flat_bd (f := fun t => if fs[t]?.getD 0 < 1099511627776 then [(⟨(tri S S * N : Nat), [(cix S 0 t * N + st : Nat)], fs[t]?.getD 0, -1, t⟩ : Pe)] else []) (b := 1) (fun t => by split <;> simp) j
  unfold hgG
  omega
end
theorem results_hg {fn : Func} {p : Tmp} (h : fn.results = #[.cell p 38]) {tmps : Array Value} {b o : Nat} (hp : tmps.getD p undef = .pointer (some ⟨b, o, none⟩)) {w : World} {c r : Value}
    (h0 : w.cell? ⟨b, o, none⟩ = some c) (h1 : w.cell? ⟨b, o + 1, none⟩ = some r) :
    (results fn tmps).run Tryd.prog w = .ok (.agg #[c, r]) w := by
  rw [results_cell h tmps _ hp]
  simp [go_sem, h0, h1]
/-- What Hypergraph returns. -/
def RetHg (w : World) (M : Nat) (P : List Pe) (e : Ending) (w' : World) : Prop := ∃ A n c es, e = .returned (.agg #[.int .i64 (M : Nat), .slice A n c]) ∧ es.map Ed.pe = P ∧ es.length = n ∧ HG w' w'.heap.size A n es ∧ Below w.heap.size w w'
set_option maxRecDepth 100000 in
set_option maxHeartbeats 8000000 in
theorem hyper_any (w : World) (T : Int) (N S st nR rc nL lc nf fc B : Nat) (RA LA FA : Option Addr) (R : List Rl) (L : List Ar) (fs : List Int) (hR : Reads w B 6 RA nR (rls R)) (hL : Reads w B 5 LA nL (ars L)) (hF : Reads w B 1 FA nf (ints fs)) (hB : B ≤ w.heap.size) (hRo : ∀ r ∈ R, r.Ok N) (hLo : ArsOk S L) (hst : st < N) (hN : N ≤ 10) (hS : S ≤ 9) (hnR : nR ≤ 14) (hnL : nL ≤ 40) (hnf : nf = S) :
    Calls Tryd.prog 16 #[.agg #[.int .i64 T, .int .i64 N, .int .i64 st, .slice RA nR rc], .agg #[.int .i64 S, .slice LA nL lc, .slice FA nf fc]] w (RetHg w (tri S S * N + 1) (hgS N S R L S ++ hgG N S st fs S)) := by
  obtain ⟨b, hb⟩ : ∃ b, w.heap.size = b := ⟨_, rfl⟩
  obtain ⟨W, hW⟩ : ∃ W, ((w.alloc (.cells #[.int .i64 T, .int .i64 N, .int .i64 st, .slice RA nR rc] 24)).alloc (.cells #[.int .i64 S, .slice LA nL lc, .slice FA nf fc] 28)).alloc (.cells #[.int .i64 0, .slice none 0 0] 38) = W := ⟨_, rfl⟩
  have K1 : Blk W b 24 #[.int .i64 T, .int .i64 N, .int .i64 st, .slice RA nR rc] := by rw [← hW]; exact ((Blk.new' _ _ _ hb).alloc _).alloc _
  have K2 : Blk W (b + 1) 28 #[.int .i64 S, .slice LA nL lc, .slice FA nf fc] := by rw [← hW]; exact (Blk.new' _ _ _ (by simp; omega)).alloc _
  have K3 : Blk W (b + 1 + 1) 38 #[.int .i64 0, .slice none 0 0] := by rw [← hW]; exact Blk.new' _ _ _ (by simp; omega)
  have hBW : Below w.heap.size w W := by rw [← hW]; exact (((Below.refl _ _).alloc (Nat.le_refl _) _).alloc (by simp) _).alloc (by simp; omega) _
  have HH : Hid (∀ w9, Below W.heap.size W w9 → (w9.cell? ⟨b, 0, none⟩ = some (.int .i64 T) ∧ w9.cell? ⟨b, 1, none⟩ = some (.int .i64 N) ∧ w9.cell? ⟨b, 2, none⟩ = some (.int .i64 st) ∧ w9.cell? ⟨b, 3, none⟩ = some (.slice RA nR rc)) ∧ (w9.cell? ⟨b + 1, 0, none⟩ = some (.int .i64 S) ∧ w9.cell? ⟨b + 1, 1, none⟩ = some (.slice LA nL lc) ∧ w9.cell? ⟨b + 1, 2, none⟩ = some (.slice FA nf fc))) := fun w9 h9 => by
    have k1 := K1.below h9 K1.lt
    have k2 := K2.below h9 K2.lt
    exact ⟨⟨k1.cell 0, k1.cell 1, k1.cell 2, k1.cell 3⟩, k2.cell 0, k2.cell 1, k2.cell 2⟩
  have HR := Lib.hid ((hR.below (hBW.mono hB)).more (Nat.le_trans hB hBW.size))
  have HL := Lib.hid ((hL.below (hBW.mono hB)).more (Nat.le_trans hB hBW.size))
  have HF := Lib.hid ((hF.below (hBW.mono hB)).more (Nat.le_trans hB hBW.size))
  have HRL := Lib.hid hR.len_rls
  have HLL := Lib.hid hL.len_ars
  have HBW := Lib.hid hBW
  have HW := Lib.hid hW
  have HBB := Lib.hid hb
  have HK3 := Lib.hid K3
  have HST := Lib.hid (And.intro hst (And.intro hN (And.intro hS (And.intro hnR hnL))))
  have HNF := Lib.hid hnf
  have HED : Hid (∀ (w9 : World) (h s t : Nat), Below W.heap.size W w9 → h < N → s ≤ t → t < S → Calls Tryd.prog 35 #[.agg #[.int .i64 T, .int .i64 N, .int .i64 st, .slice RA nR rc], .agg #[.int .i64 S, .slice LA nL lc, .slice FA nf fc], .agg #[.int .i64 h, .int .i64 s, .int .i64 t]] w9 (RetEs w9 (hgK N S R L s t h (cix S s t * N + h : Nat) R.length))) := fun w9 h s t h9 h1 h2 h3 => by
    rw [HRL.out]
    exact edges_any w9 T st N S h s t nR rc nL lc nf fc W.heap.size RA LA FA R L (HR.out.below h9) (HL.out.below h9) h9.size hRo hLo h1 h2 h3 hN hS hnR hnL
  have HE0 : Hid (ES W W (.slice none 0 0) (hgS N S R L 0)) := ES.start W
  clear hW hBW K1 K2 K3 hR hL hF hB hRo hLo hb hnf
  go_enter Tryd.func16, Tryd.ntmps16
  go_upto_region 1 with fail
  try rw [HBB.out]
  rw [HW.out]
  go_upto_region 3 with fail
  go_loopw [5, 6] (fun v x wr => ∃ s : Nat, s ≤ S ∧ x = .int .i64 s ∧ ∃ A m c, v = .slice A m c ∧ Hid (ES W wr (.slice A m c) (hgS N S R L s))) (fun _ x _ => S - (intOf x).toNat)
  case atStart => exact ⟨0, Nat.zero_le _, rfl, none, 0, 0, rfl, HE0⟩
  case round =>
    obtain ⟨s, hs, rfl, A, m, c, rfl, HE⟩ := hrel
    clear HE0
    have us : IntKind.i64.wrap ((s : Int) + 1) = (s : Int) + 1 := IntWalk.i64_in _ (by omega)
    obtain ⟨⟨n0, n1, n2, n3⟩, l0, l1, l2⟩ := HH.out _ HE.out.bl
    by_cases hlt : s < S
    case pos =>
      have hltD : decide (s < S) = true := by simp [hlt]
      go_upto_region 6 with fail
      clear n0 n1 n2 n3 l0 l1 l2
      have HE1 : Hid (ES W wr (.slice A m c) (hgS N S R L s ++ hgT N S R L s (s - s))) := by rw [Nat.sub_self]; show Hid (ES W wr (.slice A m c) (hgS N S R L s ++ [])); rw [List.append_nil]; exact HE
      go_loopw [5, 7] (fun v x wr => ∃ t : Nat, (s ≤ t ∧ t ≤ S) ∧ x = .int .i64 t ∧ ∃ A m c, v = .slice A m c ∧ Hid (ES W wr (.slice A m c) (hgS N S R L s ++ hgT N S R L s (t - s)))) (fun _ x _ => S - (intOf x).toNat)
      case atStart => exact ⟨s, ⟨Nat.le_refl _, hs⟩, rfl, A, m, c, rfl, HE1⟩
      case round =>
        obtain ⟨t, ht, rfl, A, m, c, rfl, HE⟩ := hrel
        clear HE1
        have ut : IntKind.i64.wrap ((t : Int) + 1) = (t : Int) + 1 := IntWalk.i64_in _ (by omega)
        obtain ⟨⟨n0, n1, n2, n3⟩, l0, l1, l2⟩ := HH.out _ HE.out.bl
        by_cases htS : t < S
        case neg =>
          have hltD : decide (t < S) = false := by simp [htS]
          obtain rfl : t = S := by omega
          have hn : hgS N t R L (s + 1) = hgS N t R L s ++ hgT N t R L s (t - s) := flat_succ _ _
          have HN := Lib.hid hn
          clear n0 n1 n2 n3 l1 l2 hn
          go_wp2_with fail
          go_roundw
          case rel => exact ⟨s + 1, by omega, by go_num, A, m, c, rfl, by rw [HN.out]; exact HE.out⟩
          case measure => simp [intOf]; omega
        case pos =>
          have hltD : decide (t < S) = true := by simp [htS]
          go_upto_region 9 with fail
          clear n0 n1 n2 n3 l0 l1 l2
          have HE1 : Hid (ES W wr (.slice A m c) (hgS N S R L s ++ hgT N S R L s (t - s) ++ hgH N S R L s t 0)) := by show Hid (ES W wr (.slice A m c) (hgS N S R L s ++ hgT N S R L s (t - s) ++ [])); rw [List.append_nil]; exact HE
          go_loopw [5, 8] (fun v x wr => ∃ h : Nat, h ≤ N ∧ x = .int .i64 h ∧ ∃ A m c, v = .slice A m c ∧ Hid (ES W wr (.slice A m c) (hgS N S R L s ++ hgT N S R L s (t - s) ++ hgH N S R L s t h))) (fun _ x _ => N - (intOf x).toNat)
          case atStart => exact ⟨0, Nat.zero_le _, rfl, A, m, c, rfl, HE1⟩
          case round =>
            obtain ⟨h, hh, rfl, A, m, c, rfl, HE⟩ := hrel
            clear HE1
            have uh : IntKind.i64.wrap ((h : Int) + 1) = (h : Int) + 1 := IntWalk.i64_in _ (by omega)
            obtain ⟨⟨n0, n1, n2, n3⟩, l0, l1, l2⟩ := HH.out _ HE.out.bl
            by_cases hhN : h < N
            case neg =>
              have hltD : decide (h < N) = false := by simp [hhN]
              obtain rfl : h = N := by omega
              have hn : hgT h S R L s (t + 1 - s) = hgT h S R L s (t - s) ++ hgH h S R L s t h := by
                rw [show t + 1 - s = (t - s) + 1 by omega]
                unfold hgT
                rw [flat_succ, show s + (t - s) = t by omega]
              have HN := Lib.hid hn
              clear n0 n2 n3 l0 l1 l2 hn
              go_wp2_with fail
              go_roundw
              case rel => exact ⟨t + 1, by omega, by go_num, A, m, c, rfl, by rw [HN.out, ← List.append_assoc]; exact HE.out⟩
              case measure => simp [intOf]; omega
            case pos =>
              have hltD : decide (h < N) = true := by simp [hhN]
              have hst' := HST.out
              have hPl : (hgS N S R L s ++ hgT N S R L s (t - s) ++ hgH N S R L s t h).length ≤ 10000000 := by
                rw [List.length_append, List.length_append]
                have h1 := hgS_bd (N := N) (S := S) (R := R) (L := L) s (by rw [HRL.out]; omega) (by rw [HLL.out]; omega) (by omega) (by omega) (by omega)
                have h2 := hgT_bd (N := N) (S := S) (R := R) (L := L) s (t - s) (by rw [HRL.out]; omega) (by rw [HLL.out]; omega) (by omega) (by omega)
                have h3 := hgH_bd (N := N) (S := S) (R := R) (L := L) s t h (by rw [HRL.out]; omega) (by rw [HLL.out]; omega) (by omega) (by omega)
                omega
              have hPk : (hgK N S R L s t h (cix S s t * N + h : Nat) R.length).length ≤ 10000000 := by
                have := hgK_bd (N := N) (S := S) (R := R) (L := L) s t h (cix S s t * N + h : Nat) (by rw [HRL.out]; omega) (by rw [HLL.out]; omega) (by omega)
                omega
              have HPL := Lib.hid hPl
              have HPK := Lib.hid hPk
              have hn : hgH N S R L s t (h + 1) = hgH N S R L s t h ++ hgK N S R L s t h (cix S s t * N + h : Nat) R.length := flat_succ _ _
              have HN := Lib.hid hn
              have HC := Lib.hid (fun w9 h9 => HED.out w9 h s t h9 hhN ht.1 htS)
              clear hPl hPk hn hst'
              go_upto_region 11 with fail
              go_wp2_with fail
              refine (HC.out _ HE.out.bl).mono ?_
              rintro e w6 ⟨A2, m2, c2, L2, rfl, h2l, h2n, h2r, h2t, hb6⟩
              have HES := Lib.hid (HE.out.next hb6)
              have H2L := Lib.hid h2l
              have H2N := Lib.hid h2n
              have H2R := Lib.hid h2r
              have H2T := Lib.hid h2t
              clear n0 n1 n2 n3 l0 l1 l2 h2l h2n h2r h2t hb6
              go_wp2_with (at_builtin; go_must (refine wpList_push_eds (by rfl) _ _ (by rfl) _ (by rfl) W w6 _ _ HES.out A2 m2 c2 L2 H2L.out H2N.out H2R.out H2T.out HPL.out HPK.out (by rfl) ?_; intro A9 n9 c9 w9 hes9; have HES9 := Lib.hid hes9; clear hes9))
              go_roundw
              case rel => exact ⟨h + 1, by omega, by go_num, A9, n9, c9, rfl, by rw [HN.out, ← List.append_assoc]; exact HES9.out⟩
              case measure => simp [intOf]; omega
    case neg =>
      have hltD : decide (s < S) = false := by simp [hlt]
      obtain rfl : S = s := by omega
      have hst' := HST.out
      obtain ⟨G, hG⟩ : ∃ G, tri S S * N = G := ⟨_, rfl⟩
      have hGb : G ≤ 810 := by
        have h1 := tri_le S S
        have h2 : S * S ≤ 9 * 9 := Nat.mul_le_mul (by omega) (by omega)
        have h3 : tri S S * N ≤ 81 * 10 := Nat.mul_le_mul (by omega) (by omega)
        omega
      have HCO : Hid (∀ w9, Calls Tryd.prog 36 #[.agg #[.int .i64 T, .int .i64 N, .int .i64 st, .slice RA nR rc], .agg #[.int .i64 S, .slice LA nL lc, .slice FA nf fc]] w9 fun e w' => e = .returned (.int .i64 (G + 1 : Nat)) ∧ Below w9.heap.size w9 w') := fun w9 => by
        rw [← hG]; exact count39_any w9 T st N S nR rc nL lc nf fc RA LA FA (by omega) (by omega)
      have hPS : (hgS N S R L S).length ≤ 578340 := hgS_bd (N := N) (S := S) (R := R) (L := L) S (by rw [HRL.out]; omega) (by rw [HLL.out]; omega) (by omega) (by omega) (Nat.le_refl _)
      have HPS := Lib.hid hPS
      have HGE := Lib.hid hG
      have HGB := Lib.hid hGb
      clear hst' hG hPS
      go_upto_region 12 with fail
      go_wp2_with fail
      refine (HCO.out _).mono ?_
      rintro e w2 ⟨rfl, hb2⟩
      have HE2 : Hid (ES W w2 (.slice A m c) (hgS N S R L S ++ hgG N S st fs 0)) := by show Hid (ES W w2 (.slice A m c) (hgS N S R L S ++ [])); rw [List.append_nil]; exact HE.out.next hb2
      clear n0 n1 n2 n3 l0 l1 l2 hb2
      go_upto_region 14 with fail
      go_loopw [5, 10] (fun v x wr => ∃ t : Nat, t ≤ S ∧ x = .int .i64 t ∧ ∃ A m c, v = .slice A m c ∧ Hid (ES W wr (.slice A m c) (hgS N S R L S ++ hgG N S st fs t))) (fun _ x _ => S - (intOf x).toNat)
      case atStart => exact ⟨0, Nat.zero_le _, rfl, A, m, c, rfl, HE2⟩
      case round =>
        obtain ⟨t, ht, rfl, A, m, c, rfl, HE⟩ := hrel
        clear HE2
        have ut : IntKind.i64.wrap ((t : Int) + 1) = (t : Int) + 1 := IntWalk.i64_in _ (by omega)
        obtain ⟨⟨n0, n1, n2, n3⟩, l0, l1, l2⟩ := HH.out _ HE.out.bl
        by_cases htS : t < S
        case neg =>
          have hltD : decide (t < S) = false := by simp [htS]
          obtain rfl : S = t := by omega
          obtain ⟨L9, g1, g2, g3⟩ := HE.out.ex
          have kh := HK3.out.below HE.out.bl HK3.out.lt
          have e0 := kh.cell 0
          have e1 := kh.cell 1
          simp at e0 e1
          have z0 := kh.frozen 0
          have z1 := kh.frozen 1
          have ug : IntKind.i64.wrap ((G : Int) + 1) = (G : Int) + 1 := IntWalk.i64_in _ (by omega)
          obtain ⟨A', c', hv, hc1, hc2⟩ := own_form g2
          injection hv with h1 h2 h3
          subst h1 h2 h3
          have hx := HBW.out.trans (HE.out.bl.mono HBW.out.size)
          have hbl3 : b + 1 + 1 < W.heap.size := HK3.out.lt
          obtain ⟨wz, hwz⟩ : ∃ wz, (wr.setCell ⟨b + 1 + 1, 0, none⟩ (.int .i64 ((G : Int) + 1))).setCell ⟨b + 1 + 1, 1, none⟩ (.slice A L9.length c) = wz := ⟨_, rfl⟩
          have kz1 := kh.set_ 0 (.int .i64 ((G : Int) + 1))
          simp at kz1
          have kz2 := kz1.set_ 1 (.slice A L9.length c)
          simp at kz2
          have tz : Touch (fun k => k = b + 1 + 1) wr wz := by
            rw [← hwz]
            exact Touch.setCell (F := fun k => k = b + 1 + 1) (Touch.setCell (F := fun k => k = b + 1 + 1) (Touch.refl _ wr) (p := ⟨b + 1 + 1, 0, none⟩) (.inl rfl) _) (p := ⟨b + 1 + 1, 1, none⟩) (.inl rfl) _
          have hown := own_touch g2 tz (fun k hk e => by have := own_lo g2 hk; omega)
          have hedt : EdT wz L9 := fun y hy => own_touch (g3 y hy) tz (fun k hk e => own_blk_ne (g3 y hy) kh (by decide) (by rw [hk, e]))
          rw [hwz] at kz2
          have HRET : Hid (RetHg w (tri S S * N + 1) (hgS N S R L S ++ hgG N S st fs S) (.returned (.agg #[.int .i64 ((G : Int) + 1), .slice A L9.length c])) wz) := by
            rw [HGE.out]
            exact ⟨A, _, c, L9, rfl, g1, rfl, ⟨Reads.of_own hown, fun y hy => Reads.of_own (hedt y hy)⟩, hx.trans (tz.toBelow (fun k hk => by subst hk; have := HBB.out; omega) hx.size)⟩
          have HKZ := Lib.hid kz2
          have HWZ := Lib.hid hwz
          clear n0 n1 n2 n3 l1 l2 kh kz1 kz2 tz hown hedt hx hbl3 hwz g1 g2 g3
          go_wp2_with fail
          rw [HWZ.out]
          have q0 := HKZ.out.cell 0
          have q1 := HKZ.out.cell 1
          simp at q0 q1
          exact bodyPost_ret (results_hg rfl rfl q0 q1) rfl HRET.out
        case pos =>
          have hltD : decide (t < S) = true := by simp [htS]
          have htf : t < nf := by have := HNF.out; omega
          have htI : (t : Int) < (nf : Int) := by omega
          have ht0 : (0 : Int) ≤ (t : Int) := by omega
          obtain ⟨bf, offf, rfl, _, hfc⟩ := (HF.out.below HE.out.bl).int_at htf
          obtain ⟨fv, hfv⟩ : ∃ fv, fs[t]?.getD 0 = fv := ⟨_, rfl⟩
          rw [hfv] at hfc
          have HFV := Lib.hid hfv
          have hn : hgG N S st fs (t + 1) = hgG N S st fs t ++ (if fv < 1099511627776 then [⟨(G : Nat), [(cix S 0 t * N + st : Nat)], fv, -1, t⟩] else []) := by
            have := flat_succ (fun t => if fs[t]?.getD 0 < 1099511627776 then [(⟨(tri S S * N : Nat), [(cix S 0 t * N + st : Nat)], fs[t]?.getD 0, -1, t⟩ : Pe)] else []) t
            unfold hgG
            rw [this, hfv, HGE.out]
          by_cases hfin : fv < 1099511627776
          case neg =>
            have D1 : decide (fv < 1099511627776) = false := by simp [hfin]
            rw [if_neg hfin, List.append_nil] at hn
            have HN := Lib.hid hn
            clear n0 n1 n2 n3 l1 hn hfin hfv
            go_wp2_with fail
            go_roundw
            case rel => exact ⟨t + 1, by omega, by go_num, A, m, c, rfl, by rw [HN.out]; exact HE.out⟩
            case measure => simp [intOf]; omega
          case pos =>
            have D1 : decide (fv < 1099511627776) = true := by simp [hfin]
            rw [if_pos hfin] at hn
            obtain ⟨ia, hia⟩ : ∃ ia, cix S 0 t * N + st = ia := ⟨_, rfl⟩
            rw [hia] at hn
            have HN := Lib.hid hn
            have HI : Hid (∀ w9, Calls Tryd.prog 37 #[.agg #[.int .i64 T, .int .i64 N, .int .i64 st, .slice RA nR rc], .agg #[.int .i64 S, .slice LA nL lc, .slice (some ⟨bf, offf, none⟩) nf fc], .agg #[.int .i64 (st : Int), .int .i64 0, .int .i64 (t : Int)]] w9 fun e w' => e = .returned (.tuple #[.int .i64 (ia : Nat), .bool true]) ∧ Below w9.heap.size w9 w') := fun w9 => by
              have hst' := HST.out
              have h1 := index_any w9 T st N S st 0 t nR rc nL lc nf fc RA LA (some ⟨bf, offf, none⟩) hst'.1 (Nat.zero_le _) htS (by omega) (by omega)
              rw [hia] at h1
              exact h1
            clear hn hfin hfv hia
            go_upto_region 17 with fail
            go_wp2_with fail
            with_reducible refine (HI.out _).mono ?_
            rintro e w6 ⟨rfl, hb6⟩
            have HE6 := Lib.hid (HE.out.next hb6)
            clear n0 n1 n2 n3 l0 l1 l2 hfc hb6
            obtain ⟨_, l0, l1, l2⟩ := HH.out _ HE6.out.bl
            obtain ⟨bf', offf', hFA', _, hfc⟩ := (HF.out.below HE6.out.bl).int_at htf
            injection hFA' with hFA'
            injection hFA' with h1 h2
            subst h1 h2
            rw [HFV.out] at hfc
            have hst' := HST.out
            have hGb := HGB.out
            have HT6 : Hid (EdT1 (w6.alloc (.cells #[.int .i64 (ia : Int)] 3)) ⟨G, [(ia : Int)], fv, -1, t, some ⟨w6.heap.size, 0, none⟩, 1⟩) := EdT1.new (ts := [(ia : Int)]) (Blk.new' _ _ _ rfl) (by unfold maxLen; simp) _ _ _ _
            have HES : Hid (ES W (w6.alloc (.cells #[.int .i64 (ia : Int)] 3)) (.slice A m c) (hgS N S R L S ++ hgG N S st fs t)) := HE6.out.next ((Below.refl _ _).alloc (Nat.le_refl _) _)
            have HPL : Hid ((hgS N S R L S ++ hgG N S st fs t).length ≤ 10000000) := by
              have h1 := HPS.out
              have h2 := hgG_bd (N := N) (S := S) (st := st) (fs := fs) t
              show _ ≤ _
              rw [List.length_append]
              omega
            have l2a := cell_alloc l2 (.cells #[.int .i64 (ia : Int)] 3)
            have hfca := cell_alloc hfc (.cells #[.int .i64 (ia : Int)] 3)
            clear hst' l2 hfc l0 l1
            go_wp2_with (at_builtin; go_must (refine wpList_push_ed (by rfl) _ _ (by rfl) _ (by rfl) W (w6.alloc (.cells #[.int .i64 (ia : Int)] 3)) _ ⟨G, [(ia : Int)], fv, -1, t, some ⟨w6.heap.size, 0, none⟩, 1⟩ HES.out HT6.out HPL.out (by rw [show (w6.alloc (.cells #[.int .i64 (ia : Int)] 3)).heap.size = w6.heap.size + 1 by simp]; rfl) ?_; intro A9 n9 c9 w9 hes9 _ _ _ _; have HES9 := Lib.hid hes9; clear hes9))
            go_roundw
            case rel => exact ⟨t + 1, by omega, by go_num, A9, n9, c9, rfl, by rw [HN.out, ← List.append_assoc]; exact HES9.out⟩
            case measure => simp [intOf]; omega
end Go.Proofs.YthakcefgbggkcaaDoor
