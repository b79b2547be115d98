/- Walked functions as steps of the evaluator. -/
import Derived.Test.YtibdcnmaodmghaaGreatDoorEvF
import Derived.Test.YtibdcnmaodmghaaGreatDoorBase
import Derived.Laws.BytesArg
import Derived.Maps.AppendAt
import Derived.OwnWalk
section
namespace Go.Proofs
open Go.RowKit Go.Ev Go.Proofs.YtibdcnmaodmghaaGreatDoor
/-- Bytes as cells. -/
def bsV (L : List Nat) : List Value := L.map fun x : Nat => Value.int .u8 (x : Int)
theorem bsV_len (L : List Nat) : (bsV L).length = L.length := by simp [bsV]
theorem strOfNums_nat (L : List Nat) : strOfNums (L.map fun x : Nat => (x : Int)) = Go.Ev.strOf L := by
  unfold strOfNums Go.Ev.strOf
  rw [List.map_map]
  rfl
theorem Tryz.conv_own {w : World} {base : Nat} {v : Value} {n : Nat} {L : List Nat} (h : w.ownsRow base 5 1 v n (bsV L)) : (convert 215 9 v).run Tryz.prog w = .ok (.string (Go.Ev.strOf L)) w := by
  rcases h.2 with ⟨rfl, rfl⟩ | ⟨g, cap, cur, rfl, _⟩
  · have h1 := h.1
    have : L = [] := List.eq_nil_of_length_eq_zero (by rw [← bsV_len]; simpa using h1)
    subst this
    exact run_convert_bytes_nil w 215 5 (by kernel_rfl) (by kernel_rfl) 0 0 9 (by kernel_rfl)
  · have h1 := h.1
    rw [bsV_len] at h1
    rw [← strOfNums_nat]
    refine run_convert_bytes_arg w 215 5 (by kernel_rfl) (by kernel_rfl) g 0 n cap _ (by simp; omega) (fun i hi => ?_) 9 (by kernel_rfl)
    have hl : i < L.length := by omega
    have := h.cells (g := g) rfl i (.int .u8 (L[i] : Nat)) (by simp [bsV, List.getElem?_eq_getElem hl])
    rw [Addr.add_lit] at this
    rw [this]
    simp [List.getD, List.getElem?_eq_getElem hl]
theorem Tryz.infoByte : (Tryz.prog.info? 5).map (fun i => (i.zero, i.size, i.bytes)) = some (some (.int .u8 0), 1, 1) := by kernel_rfl
theorem wideL_app : ∀ (l m : List Int), wideL (l ++ m) = wideL l ++ wideL m
  | [], m => rfl
  | z :: l, m => by simp [wideL, wide1, wideL_app l m]
theorem wideL_length : ∀ l : List Int, (wideL l).length = l.length * 8
  | [] => rfl
  | z :: l => by simp [wideL, wide1, wideL_length l]; omega
theorem wideL_take {l : List Int} {i : Nat} (h : i < l.length) : wideL (l.take (i + 1)) = wideL (l.take i) ++ wide1 l[i] [] := by
  rw [List.take_succ_eq_append_getElem h, wideL_app]
  rfl
theorem wide1_take (z : Int) (j : Nat) (hj : j < 8) : (wide1 z []).take (j + 1) = (wide1 z []).take j ++ [byteK (2 ^ (8 * j)) z] := by
  have : j = 0 ∨ j = 1 ∨ j = 2 ∨ j = 3 ∨ j = 4 ∨ j = 5 ∨ j = 6 ∨ j = 7 := by omega
  rcases this with rfl | rfl | rfl | rfl | rfl | rfl | rfl | rfl <;> rfl
set_option maxHeartbeats 1000000 in
theorem Tryz.wide_any (A : Option Addr) (cap : Nat) (l : List Int) (w : World) (hn : l.length ≤ 1000000) (hz : ∀ z ∈ l, -9223372036854775808 ≤ z ∧ z < 9223372036854775808)
    (hl : 0 < l.length → ∃ b off, A = some ⟨b, off, none⟩ ∧ b < w.heap.size ∧ ∀ j u, (l.map (Value.int .i64))[j]? = some u → w.cell? ⟨b, off + j, none⟩ = some u) :
    Calls Tryz.prog 283 #[.slice A l.length cap] w fun e w' => e = .returned (.string (Go.Ev.strOf (wideL l))) ∧ Below w.heap.size w w' := by
  obtain ⟨i0, hi0, hz0, hz1, hz2⟩ := info_parts Tryz.infoByte
  have hR : Reads w w.heap.size 1 A l.length (YtibdcnmaodmghaaGreatDoor.ints l) := ⟨by simp [YtibdcnmaodmghaaGreatDoor.ints], fun h => by
    obtain ⟨b, off, e, h1, h2⟩ := hl h
    exact ⟨b, off, e, h1, h2⟩⟩
  have HR := Lib.hid hR
  have HZ := Lib.hid hz
  clear hR hz hl
  go_enter Tryz.func283, Tryz.ntmps283
  go_wp2_with fail
  go_loopw [9, 3] (fun a v wr => ∃ i : Nat, i ≤ l.length ∧ a = .int .i64 i ∧ wr.ownsRow w.heap.size 5 1 v (i * 8) (bsV (wideL (l.take i))) ∧ Below w.heap.size w wr) (fun a _ _ => l.length - (intOf a).toNat)
  case atStart => exact ⟨0, Nat.zero_le _, rfl, by rw [Nat.zero_mul]; exact World.ownsRow_nil _ _ _ _, Below.refl _ _⟩
  case round =>
    obtain ⟨i, hi, rfl, hown, hb⟩ := hrel
    have hsz := hb.size
    by_cases hlt : i < l.length
    · have hd : decide ((i : Int) < (l.length : Int)) = true := by simp [hlt]
      obtain ⟨b, off, rfl, hbB, hcell⟩ := (HR.out.below hb).int_at hlt
      rw [show l[i]?.getD 0 = l[i] by simp [List.getElem?_eq_getElem hlt]] at hcell
      have hzz := HZ.out l[i] (List.getElem_mem hlt)
      have HT := Lib.hid (wideL_take hlt)
      generalize hze : l[i] = z at *
      go_wp2_with fail
      have hzw : 0 < 8 := by omega
      clear hcell hd
      go_loopw [13, 3] (fun a v wx => ∃ j : Nat, j ≤ 8 ∧ a = .int .i64 j ∧ wx.ownsRow w.heap.size 5 1 v (i * 8 + j) (bsV (wideL (l.take i) ++ (wide1 z []).take j)) ∧ Below w.heap.size w wx) (fun a _ _ => 8 - (intOf a).toNat)
      case atStart => exact ⟨0, by omega, rfl, by simpa using hown, hb⟩
      case round =>
        obtain ⟨j, hj, rfl, hown, hb⟩ := hrel
        have hsz := hb.size
        by_cases hlt8 : j < 8
        · have hd : decide ((j : Int) < 8) = true := by simp; omega
          have HTK := Lib.hid (wide1_take z j hlt8)
          have HB := Lib.hid (byteK_eq z (8 * j))
          clear hd
          have h8 : j = 0 ∨ j = 1 ∨ j = 2 ∨ j = 3 ∨ j = 4 ∨ j = 5 ∨ j = 6 ∨ j = 7 := by omega
          rcases h8 with rfl | rfl | rfl | rfl | rfl | rfl | rfl | rfl
          · go_wp2_with (at_builtin; refine wpList_append_own _ rfl _ _ 215 rfl w.heap.size 5 i0 (.int .u8 0) 1 1 Tryz.underlying215 hi0 hz0 hz1 hz2 rfl (by decide) _ (i * 8 + 0) (bsV (wideL (l.take i) ++ (wide1 z []).take 0)) rfl (hown.alloc _) ⟨wr.heap.size, 0, none⟩ 1 1 [.int .u8 (byteK (2 ^ (8 * 0)) z : Nat)] rfl rfl ?_ ?_ ?_ ?_ ?_ ?_)
            · intro q u hj
              rw [Addr.add_lit, (Blk.new' _ _ _ rfl).cell]
              have HBo := HB.out
              rw [List.getElem?_singleton] at hj
              split at hj
              · cases hj
                rename_i hq
                subst hq
                rw [HBo]
                simp
              · cases hj
            · intro u hu
              simp at hu
              subst hu
              rfl
            · unfold maxLen; omega
            · omega
            · simp; omega
            intro v' w2 hown' hgrow _
            have hlt0 := hown.lt
            have hb' : Below w.heap.size w w2 := (hb.alloc hsz _).grown hgrow (by simp; omega) (fun k hk => (hlt0 k hk).1)
            clear hown hgrow
            go_wp2_with fail
            go_roundw
            case rel =>
              refine ⟨0 + 1, by omega, by go_num, ?_, hb'⟩
              rw [HTK.out, ← List.append_assoc]
              have e : ∀ (X : List Nat) (y : Nat), bsV (X ++ [y]) = bsV X ++ [.int .u8 (y : Int)] := fun X y => by simp [bsV]
              rw [e]
              simpa using hown'
            case measure => simp [intOf]
          · go_wp2_with (at_builtin; refine wpList_append_own _ rfl _ _ 215 rfl w.heap.size 5 i0 (.int .u8 0) 1 1 Tryz.underlying215 hi0 hz0 hz1 hz2 rfl (by decide) _ (i * 8 + 1) (bsV (wideL (l.take i) ++ (wide1 z []).take 1)) rfl (hown.alloc _) ⟨wr.heap.size, 0, none⟩ 1 1 [.int .u8 (byteK (2 ^ (8 * 1)) z : Nat)] rfl rfl ?_ ?_ ?_ ?_ ?_ ?_)
            · intro q u hj
              rw [Addr.add_lit, (Blk.new' _ _ _ rfl).cell]
              have HBo := HB.out
              rw [List.getElem?_singleton] at hj
              split at hj
              · cases hj
                rename_i hq
                subst hq
                rw [HBo]
                simp
              · cases hj
            · intro u hu
              simp at hu
              subst hu
              rfl
            · unfold maxLen; omega
            · omega
            · simp; omega
            intro v' w2 hown' hgrow _
            have hlt0 := hown.lt
            have hb' : Below w.heap.size w w2 := (hb.alloc hsz _).grown hgrow (by simp; omega) (fun k hk => (hlt0 k hk).1)
            clear hown hgrow
            go_wp2_with fail
            go_roundw
            case rel =>
              refine ⟨1 + 1, by omega, by go_num, ?_, hb'⟩
              rw [HTK.out, ← List.append_assoc]
              have e : ∀ (X : List Nat) (y : Nat), bsV (X ++ [y]) = bsV X ++ [.int .u8 (y : Int)] := fun X y => by simp [bsV]
              rw [e]
              exact hown'
            case measure => simp [intOf]
          · go_wp2_with (at_builtin; refine wpList_append_own _ rfl _ _ 215 rfl w.heap.size 5 i0 (.int .u8 0) 1 1 Tryz.underlying215 hi0 hz0 hz1 hz2 rfl (by decide) _ (i * 8 + 2) (bsV (wideL (l.take i) ++ (wide1 z []).take 2)) rfl (hown.alloc _) ⟨wr.heap.size, 0, none⟩ 1 1 [.int .u8 (byteK (2 ^ (8 * 2)) z : Nat)] rfl rfl ?_ ?_ ?_ ?_ ?_ ?_)
            · intro q u hj
              rw [Addr.add_lit, (Blk.new' _ _ _ rfl).cell]
              have HBo := HB.out
              rw [List.getElem?_singleton] at hj
              split at hj
              · cases hj
                rename_i hq
                subst hq
                rw [HBo]
                simp
              · cases hj
            · intro u hu
              simp at hu
              subst hu
              rfl
            · unfold maxLen; omega
            · omega
            · simp; omega
            intro v' w2 hown' hgrow _
            have hlt0 := hown.lt
            have hb' : Below w.heap.size w w2 := (hb.alloc hsz _).grown hgrow (by simp; omega) (fun k hk => (hlt0 k hk).1)
            clear hown hgrow
            go_wp2_with fail
            go_roundw
            case rel =>
              refine ⟨2 + 1, by omega, by go_num, ?_, hb'⟩
              rw [HTK.out, ← List.append_assoc]
              have e : ∀ (X : List Nat) (y : Nat), bsV (X ++ [y]) = bsV X ++ [.int .u8 (y : Int)] := fun X y => by simp [bsV]
              rw [e]
              exact hown'
            case measure => simp [intOf]
          · go_wp2_with (at_builtin; refine wpList_append_own _ rfl _ _ 215 rfl w.heap.size 5 i0 (.int .u8 0) 1 1 Tryz.underlying215 hi0 hz0 hz1 hz2 rfl (by decide) _ (i * 8 + 3) (bsV (wideL (l.take i) ++ (wide1 z []).take 3)) rfl (hown.alloc _) ⟨wr.heap.size, 0, none⟩ 1 1 [.int .u8 (byteK (2 ^ (8 * 3)) z : Nat)] rfl rfl ?_ ?_ ?_ ?_ ?_ ?_)
            · intro q u hj
              rw [Addr.add_lit, (Blk.new' _ _ _ rfl).cell]
              have HBo := HB.out
              rw [List.getElem?_singleton] at hj
              split at hj
              · cases hj
                rename_i hq
                subst hq
                rw [HBo]
                simp
              · cases hj
            · intro u hu
              simp at hu
              subst hu
              rfl
            · unfold maxLen; omega
            · omega
            · simp; omega
            intro v' w2 hown' hgrow _
            have hlt0 := hown.lt
            have hb' : Below w.heap.size w w2 := (hb.alloc hsz _).grown hgrow (by simp; omega) (fun k hk => (hlt0 k hk).1)
            clear hown hgrow
            go_wp2_with fail
            go_roundw
            case rel =>
              refine ⟨3 + 1, by omega, by go_num, ?_, hb'⟩
              rw [HTK.out, ← List.append_assoc]
              have e : ∀ (X : List Nat) (y : Nat), bsV (X ++ [y]) = bsV X ++ [.int .u8 (y : Int)] := fun X y => by simp [bsV]
              rw [e]
              exact hown'
            case measure => simp [intOf]
          · go_wp2_with (at_builtin; refine wpList_append_own _ rfl _ _ 215 rfl w.heap.size 5 i0 (.int .u8 0) 1 1 Tryz.underlying215 hi0 hz0 hz1 hz2 rfl (by decide) _ (i * 8 + 4) (bsV (wideL (l.take i) ++ (wide1 z []).take 4)) rfl (hown.alloc _) ⟨wr.heap.size, 0, none⟩ 1 1 [.int .u8 (byteK (2 ^ (8 * 4)) z : Nat)] rfl rfl ?_ ?_ ?_ ?_ ?_ ?_)
            · intro q u hj
              rw [Addr.add_lit, (Blk.new' _ _ _ rfl).cell]
              have HBo := HB.out
              rw [List.getElem?_singleton] at hj
              split at hj
              · cases hj
                rename_i hq
                subst hq
                rw [HBo]
                simp
              · cases hj
            · intro u hu
              simp at hu
              subst hu
              rfl
            · unfold maxLen; omega
            · omega
            · simp; omega
            intro v' w2 hown' hgrow _
            have hlt0 := hown.lt
            have hb' : Below w.heap.size w w2 := (hb.alloc hsz _).grown hgrow (by simp; omega) (fun k hk => (hlt0 k hk).1)
            clear hown hgrow
            go_wp2_with fail
            go_roundw
            case rel =>
              refine ⟨4 + 1, by omega, by go_num, ?_, hb'⟩
              rw [HTK.out, ← List.append_assoc]
              have e : ∀ (X : List Nat) (y : Nat), bsV (X ++ [y]) = bsV X ++ [.int .u8 (y : Int)] := fun X y => by simp [bsV]
              rw [e]
              exact hown'
            case measure => simp [intOf]
          · go_wp2_with (at_builtin; refine wpList_append_own _ rfl _ _ 215 rfl w.heap.size 5 i0 (.int .u8 0) 1 1 Tryz.underlying215 hi0 hz0 hz1 hz2 rfl (by decide) _ (i * 8 + 5) (bsV (wideL (l.take i) ++ (wide1 z []).take 5)) rfl (hown.alloc _) ⟨wr.heap.size, 0, none⟩ 1 1 [.int .u8 (byteK (2 ^ (8 * 5)) z : Nat)] rfl rfl ?_ ?_ ?_ ?_ ?_ ?_)
            · intro q u hj
              rw [Addr.add_lit, (Blk.new' _ _ _ rfl).cell]
              have HBo := HB.out
              rw [List.getElem?_singleton] at hj
              split at hj
              · cases hj
                rename_i hq
                subst hq
                rw [HBo]
                simp
              · cases hj
            · intro u hu
              simp at hu
              subst hu
              rfl
            · unfold maxLen; omega
            · omega
            · simp; omega
            intro v' w2 hown' hgrow _
            have hlt0 := hown.lt
            have hb' : Below w.heap.size w w2 := (hb.alloc hsz _).grown hgrow (by simp; omega) (fun k hk => (hlt0 k hk).1)
            clear hown hgrow
            go_wp2_with fail
            go_roundw
            case rel =>
              refine ⟨5 + 1, by omega, by go_num, ?_, hb'⟩
              rw [HTK.out, ← List.append_assoc]
              have e : ∀ (X : List Nat) (y : Nat), bsV (X ++ [y]) = bsV X ++ [.int .u8 (y : Int)] := fun X y => by simp [bsV]
              rw [e]
              exact hown'
            case measure => simp [intOf]
          · go_wp2_with (at_builtin; refine wpList_append_own _ rfl _ _ 215 rfl w.heap.size 5 i0 (.int .u8 0) 1 1 Tryz.underlying215 hi0 hz0 hz1 hz2 rfl (by decide) _ (i * 8 + 6) (bsV (wideL (l.take i) ++ (wide1 z []).take 6)) rfl (hown.alloc _) ⟨wr.heap.size, 0, none⟩ 1 1 [.int .u8 (byteK (2 ^ (8 * 6)) z : Nat)] rfl rfl ?_ ?_ ?_ ?_ ?_ ?_)
            · intro q u hj
              rw [Addr.add_lit, (Blk.new' _ _ _ rfl).cell]
              have HBo := HB.out
              rw [List.getElem?_singleton] at hj
              split at hj
              · cases hj
                rename_i hq
                subst hq
                rw [HBo]
                simp
              · cases hj
            · intro u hu
              simp at hu
              subst hu
              rfl
            · unfold maxLen; omega
            · omega
            · simp; omega
            intro v' w2 hown' hgrow _
            have hlt0 := hown.lt
            have hb' : Below w.heap.size w w2 := (hb.alloc hsz _).grown hgrow (by simp; omega) (fun k hk => (hlt0 k hk).1)
            clear hown hgrow
            go_wp2_with fail
            go_roundw
            case rel =>
              refine ⟨6 + 1, by omega, by go_num, ?_, hb'⟩
              rw [HTK.out, ← List.append_assoc]
              have e : ∀ (X : List Nat) (y : Nat), bsV (X ++ [y]) = bsV X ++ [.int .u8 (y : Int)] := fun X y => by simp [bsV]
              rw [e]
              exact hown'
            case measure => simp [intOf]
          · go_wp2_with (at_builtin; refine wpList_append_own _ rfl _ _ 215 rfl w.heap.size 5 i0 (.int .u8 0) 1 1 Tryz.underlying215 hi0 hz0 hz1 hz2 rfl (by decide) _ (i * 8 + 7) (bsV (wideL (l.take i) ++ (wide1 z []).take 7)) rfl (hown.alloc _) ⟨wr.heap.size, 0, none⟩ 1 1 [.int .u8 (byteK (2 ^ (8 * 7)) z : Nat)] rfl rfl ?_ ?_ ?_ ?_ ?_ ?_)
            · intro q u hj
              rw [Addr.add_lit, (Blk.new' _ _ _ rfl).cell]
              have HBo := HB.out
              rw [List.getElem?_singleton] at hj
              split at hj
              · cases hj
                rename_i hq
                subst hq
                rw [HBo]
                simp
              · cases hj
            · intro u hu
              simp at hu
              subst hu
              rfl
            · unfold maxLen; omega
            · omega
            · simp; omega
            intro v' w2 hown' hgrow _
            have hlt0 := hown.lt
            have hb' : Below w.heap.size w w2 := (hb.alloc hsz _).grown hgrow (by simp; omega) (fun k hk => (hlt0 k hk).1)
            clear hown hgrow
            go_wp2_with fail
            go_roundw
            case rel =>
              refine ⟨7 + 1, by omega, by go_num, ?_, hb'⟩
              rw [HTK.out, ← List.append_assoc]
              have e : ∀ (X : List Nat) (y : Nat), bsV (X ++ [y]) = bsV X ++ [.int .u8 (y : Int)] := fun X y => by simp [bsV]
              rw [e]
              exact hown'
            case measure => simp [intOf]
        · have hd : decide ((j : Int) < 8) = false := by simp; omega
          have hj8 : j = 8 := by omega
          subst hj8
          go_wp2_with fail
          go_roundw
          case rel =>
            refine ⟨i + 1, by omega, by go_num, ?_, hb⟩
            rw [HT.out, show (i + 1) * 8 = i * 8 + 8 by omega]
            exact hown
          case measure => simp [intOf]; omega
    · have hd : decide ((i : Int) < (l.length : Int)) = false := by simp [hlt]
      have hi2 : i = l.length := by omega
      subst hi2
      rw [List.take_length] at hown
      have hcv := Tryz.conv_own hown
      go_wp2_with fail
      go_ret
      exact ⟨rfl, hb⟩
theorem Tryz.wide_ext {args v : AV} {B B' : Tr AO} {n n' : Nat} (h : wideK args B n = .ok v B' n') : FnS Tryz.prog 283 args B n v B' n' :=
  wide_fns (enters_of Tryz.func283 (by kernel_rfl) rfl) Tryz.wide_any h
end Go.Proofs
end

section
namespace Go.Proofs
open Go.RowKit Go.Ev Go.Proofs.YtibdcnmaodmghaaGreatDoor
set_option maxHeartbeats 400000 in
theorem Tryz.has_any (a b c d : Int) (x : Nat) (w : World) (hx : x < 256) :
    Calls Tryz.prog 278 #[.agg #[.int .u64 a, .int .u64 b, .int .u64 c, .int .u64 d], .int .u8 x] w fun e w' => e = .returned (.bool (hasW a b c d x)) ∧ Below w.heap.size w w' := by
  have hp : ∀ k : Nat, ((2 ^ k : Nat) : Int) = 2 ^ k := fun k => by simp
  have hq : (x < 64 ∧ x / 64 = 0 ∧ x % 64 = x) ∨ (¬ x < 64 ∧ x < 128 ∧ x / 64 = 1 ∧ x % 64 = x - 64) ∨ (¬ x < 64 ∧ ¬ x < 128 ∧ x < 192 ∧ x / 64 = 2 ∧ x % 64 = x - 128) ∨ (¬ x < 64 ∧ ¬ x < 128 ∧ ¬ x < 192 ∧ x / 64 = 3 ∧ x % 64 = x - 192) := by omega
  unfold hasW hasI
  simp only [hp]
  rcases hq with ⟨h1, hq, hm⟩ | ⟨h1, h2, hq, hm⟩ | ⟨h1, h2, h3, hq, hm⟩ | ⟨h1, h2, h3, hq, hm⟩
  all_goals
    simp only [*, if_true, if_false]
    rw [← hm]
    clear hm hp
    try clear h1
    try clear h2
    try clear h3
    go_enter Tryz.func278, Tryz.ntmps278
    go_wp2_with fail
    go_ret
    exact ⟨rfl, (Below.refl _ _).alloc (Nat.le_refl _) _⟩
theorem Tryz.has_ext {args v : AV} {B B' : Tr AO} {n n' : Nat} (h : hasK args B n = .ok v B' n') : FnS Tryz.prog 278 args B n v B' n' :=
  has_fns (enters_of Tryz.func278 (by kernel_rfl) rfl) Tryz.has_any h
theorem Tryz.step_neg (A1 A2 A3 : Value) (s : Nat) (b : Int) (w : World) : Calls Tryz.prog 163 #[.agg #[A1, A2, A3], .int .i64 (.negSucc s), .int .u8 b] w fun e w' => e = .returned (.int .i64 (-1)) ∧ Below w.heap.size w w' := by
  have hd : decide (Int.negSucc s < 0) = true := by simp
  generalize Int.negSucc s = z at *
  go_enter Tryz.func163, Tryz.ntmps163
  go_wp2_with fail
  go_ret
  exact ⟨rfl, (Below.refl _ _).alloc (Nat.le_refl _) _⟩
set_option maxHeartbeats 400000 in
theorem Tryz.step_any (A1 A2 A3 R : Value) (s b c : Nat) (z : Int) (w : World) (h1 : ElemIs w A1 b (.int .i64 c)) (h2 : ElemIs w A2 s R) (h3 : ElemIs w R c (.int .i64 z)) :
    Calls Tryz.prog 163 #[.agg #[A1, A2, A3], .int .i64 s, .int .u8 b] w fun e w' => e = .returned (.int .i64 z) ∧ Below w.heap.size w w' := by
  obtain ⟨b1, o1, l1, c1, rfl, i1, g1, k1⟩ := h1
  obtain ⟨b2, o2, l2, c2, rfl, i2, g2, k2⟩ := h2
  obtain ⟨b3, o3, l3, c3, rfl, i3, g3, k3⟩ := h3
  have q1 := cell_alloc k1 (.cells #[.slice (some ⟨b1, o1, none⟩) l1 c1, .slice (some ⟨b2, o2, none⟩) l2 c2, A3] 27)
  have q2 := cell_alloc k2 (.cells #[.slice (some ⟨b1, o1, none⟩) l1 c1, .slice (some ⟨b2, o2, none⟩) l2 c2, A3] 27)
  have q3 := cell_alloc k3 (.cells #[.slice (some ⟨b1, o1, none⟩) l1 c1, .slice (some ⟨b2, o2, none⟩) l2 c2, A3] 27)
  have hd : decide ((s : Int) < 0) = false := by simp
  go_enter Tryz.func163, Tryz.ntmps163
  go_wp2_with fail
  go_quiet (fail)
  go_wp2_with fail
  go_ret
  exact ⟨rfl, below_drewN ((Below.refl _ _).alloc (Nat.le_refl _) _) _⟩
theorem Tryz.step_ext {args v : AV} {B B' : Tr AO} {n n' : Nat} (h : stepK args B n = .ok v B' n') : FnS Tryz.prog 163 args B n v B' n' :=
  step_fns (enters_of Tryz.func163 (by kernel_rfl) rfl) Tryz.step_neg Tryz.step_any h
end Go.Proofs
end
