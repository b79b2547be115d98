/- PqueueUpdates returns true. -/
import Derived.Test.YtnechjedhpcffaaPqUpd
import Derived.Deep.DeepCutAuto
namespace Go.Proofs.Ytnechjedhpcffaa
open Go.RowKit

set_option maxRecDepth 100000 in
set_option maxHeartbeats 4000000 in
theorem lawUpdates_any (A : Option Addr) (n c B : Nat) (ks : List Int) (x key : Int) (w : World) (hl : Reads w B 1 A n (ints ks)) (hB : B ≤ w.heap.size) (hx : 0 ≤ x ∧ x ≤ 255) :
    Calls Try.prog 4 #[.slice A n c, .int .u8 x, .int .i64 key] w fun e w' => e = .returned (.bool true) ∧ Below w.heap.size w w' := by
  have HL := Lib.hid (hl.more hB)
  clear hl
  obtain ⟨xa, rfl⟩ := Int.eq_ofNat_of_zero_le hx.1
  have hxa : xa ≤ 255 := by omega
  clear hx
  go_enter Try.func4, Try.ntmps4
  by_cases hn : n ≤ 50
  case neg =>
    have hnD : decide ((50 : Int) < (n : Int)) = true := by simp; omega
    go_wp2_with fail
    refine (awake_any _).mono ?_
    rintro e wa ⟨rfl, hba⟩
    go_wp2_with fail
    go_ret
    exact ⟨rfl, hba⟩
  case pos =>
  have hnD : decide ((50 : Int) < (n : Int)) = false := by simp; omega
  rcases Nat.eq_zero_or_pos n with hn0 | hn0
  · subst hn0
    go_wp2_with fail
    refine (awake_any _).mono ?_
    rintro e wa ⟨rfl, hba⟩
    go_wp2_with fail
    go_ret
    exact ⟨rfl, hba⟩
  have hz : ((n : Int) == 0) = false := by rw [beq_eq_false_iff_ne]; omega
  have hz' : ¬ n = 0 := by omega
  obtain ⟨k, hk⟩ : ∃ k, xa % n = k := ⟨_, rfl⟩
  have hkn : k < n := by have := Nat.mod_lt xa hn0; omega
  have HKM := Lib.hid hk
  have v1 : IntKind.i64.wrap (xa : Int) = (xa : Int) := IntWalk.i64_in _ (by omega)
  have v2 : (xa : Int).tmod (n : Int) = (k : Int) := by rw [← HKM.out]; rfl
  have v3 : xa % n = k := HKM.out
  have v5 : IntKind.i64.wrap (k : Int) = (k : Int) := IntWalk.i64_in _ (by omega)
  have v8 : (xa : Int) % (n : Int) = (k : Int) := by rw [← v3]; exact (Int.natCast_emod xa n).symm
  clear hk
  go_wp2_with fail
  refine (newq_any w).mono ?_
  rintro e w1 ⟨rfl, ⟨F1, h1⟩, hb1⟩
  have H1 := Lib.hid h1
  have hs1 := hb1.size
  obtain ⟨q, hq⟩ : ∃ q, w.heap.size + 1 = q := ⟨_, rfl⟩
  rw [hq] at H1 ⊢
  clear h1 hq
  go_wp2_with fail
  clear v1 v2 v3 v5 v8
  go_loopw [9] (fun a wr => ∃ i : Nat, i ≤ n ∧ a = .int .i64 i ∧ (∃ F, Hid (QB wr w.heap.size q F (Lk ks i) i i)) ∧ Below w.heap.size w wr) (fun a _ => n - (intOf a).toNat)
  case atStart => exact ⟨0, Nat.zero_le _, rfl, ⟨F1, H1⟩, hb1⟩
  case round =>
    obtain ⟨i, hi, rfl, ⟨F, HQ⟩, hbr⟩ := hrel
    clear H1 hb1 hs1
    have hsr := hbr.size
    by_cases hlt : i < n
    case pos =>
      have hltD : decide (i < n) = true := by simp [hlt]
      obtain ⟨b, off, rfl, _, hk⟩ := (HL.out.below hbr).int_at hlt
      go_wp2_with fail
      refine (pushq_any _ _ HQ.out (by omega) (by omega)).mono ?_
      rintro e w2 ⟨rfl, G, h2, s2⟩
      rw [Lk_succ] at h2
      have H2 := Lib.hid h2
      have hb2 := hbr.trans (s2.below hsr)
      clear h2 s2
      go_wp2_with fail
      go_roundw
      case rel => exact ⟨i + 1, by omega, by go_num, ⟨G, H2⟩, hb2⟩
      case measure => simp [intOf]; omega
    case neg =>
      have hltD : decide (i < n) = false := by simp [hlt]
      obtain rfl : i = n := by omega
      clear hlt hi
      obtain ⟨n, hni⟩ : ∃ n, n = i := ⟨_, rfl⟩
      subst hni
      have hEk : (Lk ks n)[k]? = some (En ks k) := by simp [Lk, hkn]
      have HPE := Lib.hid (get_perm' hEk)
      obtain ⟨L1, hL1⟩ : ∃ L1, (Lk ks n).eraseIdx k = L1 := ⟨_, rfl⟩
      rw [hL1] at HPE
      clear hEk hL1
      have hwk := wfN (n := k) (by omega)
      have hwn := wfN (n := n) (by omega)
      go_wp2_with fail
      refine (updq_any (e := En ks k) key k HQ.out hwk (by omega) HPE.out rfl).mono ?_
      rintro e w2 ⟨rfl, G, h2, s2⟩
      have HQ2 : Hid (QB w2 w.heap.size q G (Up key k n :: L1) n (n + 1)) := h2
      have HU := Lib.hid (uinv_start (key := key) HPE.out)
      have hc2 := hbr.trans (s2.below hsr)
      have hs2 := hc2.size
      have hlen : (Up key k n :: L1).length = n := by
        have := HPE.out.length_eq
        rw [Lk_length] at this
        simp at this ⊢
        omega
      have HLE := Lib.hid hlen
      have hb1 : ∀ e ∈ Up key k n :: L1, e.h < n := HQ2.out.ok.hb
      have HB1 := Lib.hid hb1
      clear h2 s2 hlen hb1 HQ hbr hsr
      go_wp2_with fail
      refine (updq_no 0 0 HQ2.out hwn (fun e he => by have := HB1.out e he; omega)).mono ?_
      rintro e w3 ⟨rfl, hb3⟩
      have HQ3 := Lib.hid (HQ2.out.below hb3)
      have hc3 := hc2.trans (hb3.mono hs2)
      have hs3 := hc3.size
      go_wp2_with fail
      refine (updq_no 0 0 HQ3.out (by decide) (fun e he => by omega)).mono ?_
      rintro e w4 ⟨rfl, hb4⟩
      have HQ4 := Lib.hid (HQ3.out.below hb4)
      have hc4 := hc3.trans (hb4.mono hs3)
      have hs4 := hc4.size
      go_wp2_with fail
      refine (lenq_any HQ4.out).mono ?_
      rw [HLE.out]
      rintro e w5 ⟨rfl, hb5⟩
      have HQ5 := Lib.hid (HQ4.out.below hb5)
      have hc5 := hc4.trans (hb5.mono hs4)
      have hs5 := hc5.size
      have dnn : ((n : Int) != (n : Int)) = false := by simp
      clear HQ2 HQ3 HQ4 hb3 hb4 hb5 hc2 hc3 hc4 hs2 hs3 hs4
      go_wp2_with fail
      go_loopw [10, 11] (fun a10 a11 wr2 => ∃ i : Nat, i ≤ n ∧ a10 = .int .i64 (bc ks key k i : Nat) ∧ a11 = .int .i64 i ∧ wr2 = w5) (fun _ a11 _ => n - (intOf a11).toNat)
      case atStart => exact ⟨0, Nat.zero_le _, rfl, rfl, rfl⟩
      case round =>
        obtain ⟨i, hi, rfl, rfl, rfl⟩ := hrel
        have hble := bc_le ks key k i
        have hbs := bc_succ ks key k i
        by_cases hlt : i < n
        case pos =>
          have hltD : decide (i < n) = true := by simp [hlt]
          obtain ⟨b, off, rfl, _, hkc⟩ := (HL.out.below hc5).int_at hlt
          obtain ⟨kv, hkv⟩ : ∃ kv, ks[i]?.getD 0 = kv := ⟨_, rfl⟩
          rw [hkv] at hkc hbs
          obtain ⟨B0, hB0⟩ : ∃ B0, bc ks key k i = B0 := ⟨_, rfl⟩
          rw [hB0] at hble hbs ⊢
          have HBS := Lib.hid hbs
          have u1 : IntKind.i64.wrap ((B0 : Int) + 1) = (B0 : Int) + 1 := IntWalk.i64_in _ (by omega)
          clear hbs hB0 hkv
          by_cases hik : i = k
          · have d1 : ((i : Int) != (k : Int)) = false := by rw [hik]; simp
            have HIK := Lib.hid hik
            clear hik
            go_wp2_with fail
            go_roundw
            case rel => exact ⟨i + 1, by omega, by rw [HBS.out, if_neg (by have := HIK.out; omega), Nat.add_zero], by go_num, by first | rfl | trivial⟩
            case measure => simp [intOf]; omega
          · have d1 : ((i : Int) != (k : Int)) = true := by simp; omega
            by_cases hle : kv ≤ key
            · have d2 : decide (kv ≤ key) = true := by simp [hle]
              go_wp2_with fail
              go_roundw
              case rel => exact ⟨i + 1, by omega, by rw [HBS.out, if_pos ⟨hik, hle⟩]; go_num, by go_num, by first | rfl | trivial⟩
              case measure => simp [intOf]; omega
            · have d2 : decide (kv ≤ key) = false := by simp [hle]
              go_wp2_with fail
              go_roundw
              case rel => exact ⟨i + 1, by omega, by rw [HBS.out, if_neg (by omega), Nat.add_zero], by go_num, by first | rfl | trivial⟩
              case measure => simp [intOf]; omega
        case neg =>
          have hltD : decide (i < n) = false := by simp [hlt]
          obtain ⟨n', hni⟩ : ∃ n', n' = i := ⟨_, rfl⟩
          have hin : i = n := by omega
          subst hin
          clear hni n' hbs hlt hi
          obtain ⟨bt, hbt⟩ : ∃ bt, bc ks key k i = bt := ⟨_, rfl⟩
          rw [hbt] at hble HU ⊢
          clear hbt
          go_wp2_with fail
          go_loopw [12] (fun a wr2 => ∃ j : Nat, j ≤ i ∧ a = .int .i64 j ∧ (∃ (F : Nat → Prop) (R : List Ent), Hid (QB wr2 w.heap.size q F R i (i + 1)) ∧ Hid (UInv ks key k i bt R j) ∧ R.length = i - j) ∧ Below w.heap.size w wr2) (fun a _ => i - (intOf a).toNat)
          case atStart => exact ⟨0, Nat.zero_le _, rfl, ⟨G, _, HQ5, HU, by rw [HLE.out]; omega⟩, hc5⟩
          case round =>
            obtain ⟨j, hj, rfl, ⟨F, R, HQ, HI, hR⟩, hbr⟩ := hrel
            clear HQ5 HU HLE hc5 hs5
            have hsr := hbr.size
            by_cases hlt : j < i
            case neg =>
              have hltD : decide (j < i) = false := by simp [hlt]
              obtain rfl : R = [] := List.eq_nil_of_length_eq_zero (by omega)
              clear hR
              go_wp2_with fail
              refine (awake_any _).mono ?_
              rintro e w6 ⟨rfl, hb6⟩
              have HQ6 := Lib.hid (HQ.out.below hb6)
              have hc6 := hbr.trans (hb6.mono hsr)
              go_wp2_with fail
              refine (lenq_any HQ6.out).mono ?_
              rintro e w7 ⟨rfl, hb7⟩
              go_wp2_with fail
              go_ret
              exact ⟨rfl, hc6.trans (hb7.mono hc6.size)⟩
            case pos =>
            have hltD : decide (j < i) = true := by simp [hlt]
            have hne : R ≠ [] := by intro e; rw [e] at hR; simp at hR; omega
            obtain ⟨m, R', hmin, hperm⟩ := popq_first HQ.out hne
            obtain ⟨hcase, hinv⟩ := HI.out.pop hmin hperm HQ.out.ok.td
            have HI' := Lib.hid hinv
            have hR' : R'.length = i - (j + 1) := by have := hperm.length_eq; simp at this; omega
            have HR' := Lib.hid hR'
            have HMI := Lib.hid hmin
            have HPE2 := Lib.hid hperm
            clear hinv hmin hperm hR' hne HI hR
            obtain ⟨mk, mi, mh, mt⟩ := m
            go_wp2_with fail
            refine (popq_any HQ.out HMI.out HPE2.out).mono ?_
            rintro e w6 ⟨rfl, G6, h6, s6⟩
            have HQ6 := Lib.hid (h6.alloc (.cells #[.int .i64 mk, .int .i64 mi] 27))
            have X6 := h6.new 27 #[.int .i64 mk, .int .i64 mi]
            have hc6' := hbr.trans (s6.below hsr)
            have hc6 := hc6'.alloc hc6'.size (.cells #[.int .i64 mk, .int .i64 mi] 27)
            clear h6 s6 hc6'
            have hs6 := hc6.size
            have x0 : (w6.alloc (.cells #[.int .i64 mk, .int .i64 mi] 27)).cell? ⟨w6.heap.size, 0, none⟩ = some (.int .i64 mk) := X6.1.cell 0
            have x1 : (w6.alloc (.cells #[.int .i64 mk, .int .i64 mi] 27)).cell? ⟨w6.heap.size, 1, none⟩ = some (.int .i64 mi) := X6.1.cell 1
            clear X6
            rcases hcase with ⟨hmU, hjb, hnk⟩ | ⟨h1, h2, h3⟩
            · injection hmU with e1 e2 e3 e4
              subst e1 e2 e3 e4
              have HNK := Lib.hid hnk
              clear hnk
              have d1 : ((mh : Int) == (mh : Int)) = true := beq_self_eq_true _
              have d2 : ((j : Int) == (bt : Int)) = true := by rw [hjb]; exact beq_self_eq_true _
              have d3 : (mk != mk) = false := by simp
              clear hjb
              go_wp2_with fail
              refine (updq_no mk mh HQ6.out hwk (fun e he => by have := HNK.out e he; omega)).mono ?_
              rintro e w7 ⟨rfl, hb7⟩
              have HQ7 := Lib.hid (HQ6.out.below hb7)
              have hc7 := hc6.trans (hb7.mono hs6)
              go_wp2_with fail
              go_roundw
              case rel => exact ⟨j + 1, by omega, by go_num, ⟨G6, R', HQ7, HI', HR'.out⟩, hc7⟩
              case measure => simp [intOf]; omega
            · replace h1 : mh ≠ k := h1
              replace h2 : mi = (mh : Int) := h2
              have d1 : (mi == (k : Int)) = false := by rw [beq_eq_false_iff_ne]; omega
              have d2 : ((j : Int) == (bt : Int)) = false := by rw [beq_eq_false_iff_ne]; omega
              clear h1 h2 h3
              go_wp2_with fail
              go_roundw
              case rel => exact ⟨j + 1, by omega, by go_num, ⟨G6, R', HQ6, HI', HR'.out⟩, hc6⟩
              case measure => simp [intOf]; omega
end Go.Proofs.Ytnechjedhpcffaa
