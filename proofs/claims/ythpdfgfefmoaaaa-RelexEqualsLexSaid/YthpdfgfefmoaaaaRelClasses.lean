/- The reference's classes of bytes. -/
import Derived.Test.YthpdfgfefmoaaaaRelSets
import Derived.Test.YthpdfgfefmoaaaaRMake
namespace Go.Proofs.Ythpdfgfefmoaaaa
open Go.RowKit

def eqv (l : List S4) (x y : Nat) : Bool := l.all fun s => s.has x == s.has y
theorem eqv_yes {l : List S4} {x y : Nat} (h : ∀ (j : Nat) (s : S4), l[j]? = some s → s.has x = s.has y) : eqv l x y = true := by
  simp only [eqv, List.all_eq_true, beq_iff_eq]
  intro s hs
  obtain ⟨j, hj⟩ := List.getElem?_of_mem hs
  exact h j s hj
theorem eqv_no {l : List S4} {x y j : Nat} {s : S4} (h : l[j]? = some s) (hn : s.has x ≠ s.has y) : eqv l x y = false := by
  rw [Bool.eq_false_iff]
  intro he
  simp only [eqv, List.all_eq_true, beq_iff_eq] at he
  exact hn (he s (List.mem_of_getElem? h))

set_option maxHeartbeats 1000000 in
theorem equivalent_any (A : Option Addr) (n c B x y : Nat) (l : List S4) (w : World) (hl : Reads w B 4 A n (sets l)) (hB : B ≤ w.heap.size) (hn : n ≤ 1000) (hx : x < 256) (hy : y < 256) :
    Calls Try.prog 35 #[.slice A n c, .int .u8 x, .int .u8 y] w fun e w' => e = .returned (.bool (eqv l x y)) ∧ Below w.heap.size w w' := by
  have HL := Lib.hid hl
  have hln := hl.len_sets
  clear hl
  go_enter Try.func35, Try.ntmps35
  go_wp2_with fail
  go_loopw [7] (fun a wr => ∃ i : Nat, i ≤ n ∧ a = .int .i64 i ∧ Below w.heap.size w wr ∧ Hid (∀ (j : Nat) (s : S4), j < i → l[j]? = some s → s.has x = s.has y)) (fun a _ => n - (intOf a).toNat)
  case atStart => exact ⟨0, by omega, rfl, Below.refl _ _, fun j s hj => absurd hj (by omega)⟩
  case round =>
    obtain ⟨i, hi, rfl, hb, HJ⟩ := hrel
    have hs := hb.size
    by_cases hlt : i < n
    · have hd : decide (i < n) = true := by simp [hlt]
      obtain ⟨b, off, t, rfl, hbB, ht, k0, k1, k2, k3⟩ := (HL.out.below (hb.mono hB)).set_at hlt
      have hbr : b < wr.heap.size := by omega
      have HT := Lib.hid ht
      obtain ⟨ta, tb, tc, td⟩ := t
      simp only at k0 k1 k2 k3
      clear ht
      have h4 : ∀ w1, Below wr.heap.size wr w1 → w1.cell? ⟨b, off + i * 4, none⟩ = some (.int .u64 ta) ∧ w1.cell? ⟨b, off + i * 4 + 1, none⟩ = some (.int .u64 tb) ∧ w1.cell? ⟨b, off + i * 4 + 2, none⟩ = some (.int .u64 tc) ∧ w1.cell? ⟨b, off + i * 4 + 3, none⟩ = some (.int .u64 td) ∧ Below wr.heap.size wr w1 :=
        fun w1 h => ⟨((bcell h).1 _ _ hbr).trans k0, ((bcell h).1 _ _ hbr).trans k1, ((bcell h).1 _ _ hbr).trans k2, ((bcell h).1 _ _ hbr).trans k3, h⟩
      have H4 := Lib.hid h4
      clear h4
      go_wp2_with fail
      go_region_held3 (fun w' => w'.cell? ⟨b, off + i * 4, none⟩ = some (.int .u64 ta) ∧ w'.cell? ⟨b, off + i * 4 + 1, none⟩ = some (.int .u64 tb) ∧ w'.cell? ⟨b, off + i * 4 + 2, none⟩ = some (.int .u64 tc) ∧ w'.cell? ⟨b, off + i * 4 + 3, none⟩ = some (.int .u64 td) ∧ Below wr.heap.size wr w')
        (first | exact H4.out _ Y2 | exact H4.out _ Y1 | exact H4.out _ ((Below.refl _ _).drew))
        (first
          | (go_at_call_of 37 (Value.int .u8 x); refine (has_any ta tb tc td x wr.drew hx).mono ?_; rintro e w1 ⟨rfl, hb1⟩; have Y1 : Below wr.heap.size wr w1 := ((Below.refl _ wr).drew).trans hb1)
          | (go_at_call_of 37 (Value.int .u8 y); refine (has_any ta tb tc td y w1 hy).mono ?_; rintro e w2 ⟨rfl, hb2⟩; have Y2 : Below wr.heap.size wr w2 := Y1.trans (hb2.mono Y1.size)))
      have hbw : Below w.heap.size w w2 := hb.trans (Y2.mono hs)
      generalize hp : S4.has ⟨ta, tb, tc, td⟩ x = p
      generalize hq : S4.has ⟨ta, tb, tc, td⟩ y = q
      have HP := Lib.hid hp
      have HQ := Lib.hid hq
      clear hp hq
      cases p with
      | true =>
        cases q with
        | true =>
          have HC : Hid (S4.has ⟨ta, tb, tc, td⟩ x = S4.has ⟨ta, tb, tc, td⟩ y) := by show _ = _; rw [HP.out, HQ.out]
          go_wp2_with fail
          go_roundw
          case rel =>
            refine ⟨i + 1, by omega, by go_num, hbw, fun j s hj hs => ?_⟩
            rcases Nat.lt_or_ge j i with h | h
            · exact HJ.out j s h hs
            · obtain rfl : j = i := by omega
              have e1 := hs.symm.trans HT.out
              injection e1 with e1
              subst e1
              exact HC.out
          case measure => simp [intOf]; omega
        | false =>
          have HE := Lib.hid (eqv_no HT.out (x := x) (y := y) (by rw [HP.out, HQ.out]; decide))
          go_wp2_with fail
          go_ret
          exact ⟨ret_bool HE.out.symm, hbw⟩
      | false =>
        cases q with
        | true =>
          have HE := Lib.hid (eqv_no HT.out (x := x) (y := y) (by rw [HP.out, HQ.out]; decide))
          go_wp2_with fail
          go_ret
          exact ⟨ret_bool HE.out.symm, hbw⟩
        | false =>
          have HC : Hid (S4.has ⟨ta, tb, tc, td⟩ x = S4.has ⟨ta, tb, tc, td⟩ y) := by show _ = _; rw [HP.out, HQ.out]
          go_wp2_with fail
          go_roundw
          case rel =>
            refine ⟨i + 1, by omega, by go_num, hbw, fun j s hj hs => ?_⟩
            rcases Nat.lt_or_ge j i with h | h
            · exact HJ.out j s h hs
            · obtain rfl : j = i := by omega
              have e1 := hs.symm.trans HT.out
              injection e1 with e1
              subst e1
              exact HC.out
          case measure => simp [intOf]; omega
    · have hd : decide (i < n) = false := by simp [hlt]
      have HE := Lib.hid (eqv_yes (l := l) (x := x) (y := y) (fun j s hj => HJ.out j s (by have := (List.getElem?_eq_some_iff.1 hj).1; omega) hj))
      go_wp2_with fail
      go_ret
      exact ⟨ret_bool HE.out.symm, hb⟩

/-- The classes of the bytes 0 to b - 1, and how many there are. -/
def findEqv (l : List S4) (b : Nat) : Nat → Nat → Option Nat
  | 0, _ => none
  | f + 1, a => if a < b then (if eqv l a b then some a else findEqv l b f (a + 1)) else none
def classesL (l : List S4) : Nat → List Int × Int
  | 0 => ([], 0)
  | b + 1 =>
    match findEqv l b b 0 with
    | some a => ((classesL l b).1 ++ [(classesL l b).1[a]?.getD 0], if (classesL l b).1[a]?.getD 0 == (classesL l b).2 then (classesL l b).2 + 1 else (classesL l b).2)
    | none => ((classesL l b).1 ++ [(classesL l b).2], (classesL l b).2 + 1)
theorem classesL_len (l : List S4) : ∀ b, (classesL l b).1.length = b
  | 0 => rfl
  | b + 1 => by
    have := classesL_len l b
    simp only [classesL]
    split <;> simp [this]
theorem classesL_bd (l : List S4) : ∀ b, 0 ≤ (classesL l b).2 ∧ (classesL l b).2 ≤ b ∧ ∀ (j : Nat) (x : Int), (classesL l b).1[j]? = some x → 0 ≤ x ∧ x ≤ b
  | 0 => ⟨by simp [classesL], by simp [classesL], by simp [classesL]⟩
  | b + 1 => by
    obtain ⟨h1, h2, h3⟩ := classesL_bd l b
    have hln := classesL_len l b
    have hd : ∀ a : Nat, 0 ≤ (classesL l b).1[a]?.getD 0 ∧ (classesL l b).1[a]?.getD 0 ≤ b := by
      intro a
      cases ha : (classesL l b).1[a]? with
      | none => simp
      | some x => exact h3 a x ha
    simp only [classesL]
    split
    · rename_i a ha
      refine ⟨?_, ?_, ?_⟩
      · simp only; split <;> omega
      · simp only; split <;> omega
      · intro j x hx
        simp only at hx
        rw [List.getElem?_append] at hx
        split at hx
        · have := h3 j x hx; omega
        · rw [List.getElem?_singleton] at hx
          split at hx
          · injection hx with hx; have := hd a; omega
          · injection hx
    · refine ⟨?_, ?_, ?_⟩
      · simp only; omega
      · simp only; omega
      · intro j x hx
        simp only at hx
        rw [List.getElem?_append] at hx
        split at hx
        · have := h3 j x hx; omega
        · rw [List.getElem?_singleton] at hx
          split at hx
          · injection hx with hx; omega
          · injection hx
theorem find_some (l : List S4) (b : Nat) : ∀ (f a x : Nat), a + f = b → x < b → a ≤ x → (∀ y, a ≤ y → y < x → eqv l y b = false) → eqv l x b = true → findEqv l b f a = some x
  | 0, a, x, h1, h2, h3, _, _ => by omega
  | f + 1, a, x, h1, h2, h3, h4, h5 => by
    simp only [findEqv]
    rw [if_pos (by omega)]
    by_cases hax : a = x
    · subst hax; rw [if_pos h5]
    · rw [if_neg (by rw [h4 a (Nat.le_refl _) (by omega)]; decide)]
      exact find_some l b f (a + 1) x (by omega) h2 (by omega) (fun y h6 h7 => h4 y (by omega) h7) h5
theorem find_none (l : List S4) (b : Nat) : ∀ (f a : Nat), a + f = b → (∀ y, a ≤ y → y < b → eqv l y b = false) → findEqv l b f a = none
  | 0, a, h1, _ => rfl
  | f + 1, a, h1, h4 => by
    simp only [findEqv]
    rw [if_pos (by omega), if_neg (by rw [h4 a (Nat.le_refl _) (by omega)]; decide)]
    exact find_none l b f (a + 1) (by omega) (fun y h6 h7 => h4 y (by omega) h7)

theorem classesL_some {l : List S4} {b a : Nat} (ha : a < b) (h1 : ∀ y, y < a → eqv l y b = false) (h2 : eqv l a b = true) :
    classesL l (b + 1) = ((classesL l b).1 ++ [(classesL l b).1[a]?.getD 0], if (classesL l b).1[a]?.getD 0 == (classesL l b).2 then (classesL l b).2 + 1 else (classesL l b).2) := by
  simp only [classesL]
  rw [find_some l b b 0 a (by omega) ha (Nat.zero_le _) (fun y _ h => h1 y h) h2]
theorem classesL_none {l : List S4} {b : Nat} (h1 : ∀ y, y < b → eqv l y b = false) : classesL l (b + 1) = ((classesL l b).1 ++ [(classesL l b).2], (classesL l b).2 + 1) := by
  simp only [classesL]
  rw [find_none l b b 0 (by omega) (fun y _ h => h1 y h)]
/-- The first b cells are these numbers. -/
def Filled (cs : Array Value) (L : List Int) (b : Nat) : Prop := cs.size = 256 ∧ L.length = b ∧ ∀ j, j < b → cs[j]? = some (.int .i64 (L[j]?.getD 0))
theorem Filled.push {cs : Array Value} {L : List Int} {b : Nat} (h : Filled cs L b) (hb : b < 256) (x : Int) : Filled (cs.setIfInBounds b (.int .i64 x)) (L ++ [x]) (b + 1) := by
  obtain ⟨h1, h2, h3⟩ := h
  refine ⟨by simp [h1], by simp [h2], fun j hj => ?_⟩
  rw [Array.getElem?_setIfInBounds]
  by_cases hjb : b = j
  · subst hjb
    rw [if_pos rfl, if_pos (by omega)]
    simp [← h2]
  · rw [if_neg hjb, h3 j (by omega), List.getElem?_append_left (by omega)]
theorem Filled.all {cs : Array Value} {L : List Int} (h : Filled cs L 256) : cs.toList = ints L := by
  obtain ⟨h1, h2, h3⟩ := h
  apply List.ext_getElem?
  intro j
  rw [Array.getElem?_toList]
  rcases Nat.lt_or_ge j 256 with hj | hj
  · rw [h3 j hj]
    have : j < L.length := by omega
    simp [ints, this]
  · rw [Array.getElem?_eq_none (by omega), List.getElem?_eq_none (by simp [ints]; omega)]
theorem set_set {cs : Array Value} (b : Nat) (x y : Value) : (cs.setIfInBounds b x).setIfInBounds b y = cs.setIfInBounds b y := by
  apply Array.ext_getElem?
  intro j
  simp only [Array.getElem?_setIfInBounds, Array.size_setIfInBounds]
  split <;> simp_all

set_option maxRecDepth 100000 in
set_option maxHeartbeats 1000000 in
theorem classes_any (A : Option Addr) (n c B : Nat) (l : List S4) (w : World) (hl : Reads w B 4 A n (sets l)) (hB : B ≤ w.heap.size) (hn : n ≤ 1000) :
    Calls Try.prog 30 #[.slice A n c] w fun e w' => e = .returned (.slice (some ⟨w.heap.size, 0, none⟩) 256 256) ∧ (∃ cs, Blk w' w.heap.size 3 cs ∧ cs.toList = ints (classesL l 256).1) ∧ Below w.heap.size w w' := by
  have HL := Lib.hid hl
  clear hl
  have hmk := run_make256 w
  go_enter Try.func30, Try.ntmps30
  go_wp2_with fail
  clear hmk
  go_loopw [4, 5] (fun nn bb wr => ∃ (b : Nat) (cs : Array Value), b ≤ 256 ∧ nn = .int .i64 (classesL l b).2 ∧ bb = .int .i64 b ∧ Blk wr w.heap.size 3 cs ∧ Hid (Filled cs (classesL l b).1 b) ∧ Below w.heap.size w wr) (fun _ bb _ => 256 - (intOf bb).toNat)
  case atStart => exact ⟨0, zeros256, by omega, rfl, rfl, Blk.new' _ _ _ rfl, ⟨by simp [zeros256], rfl, fun j hj => absurd hj (by omega)⟩, (Below.refl _ _).alloc (Nat.le_refl _) _⟩
  case round =>
    obtain ⟨b, cs, hb256, rfl, rfl, K, HF, hb⟩ := hrel
    have hs := hb.size
    have hbd := classesL_bd l b
    obtain ⟨nv, hnv⟩ : ∃ nv, nv = (classesL l b).2 := ⟨_, rfl⟩
    have HNV := Lib.hid hnv
    rw [← hnv] at hbd ⊢
    have hb1 := hbd.1
    have hb2 := hbd.2.1
    have HB3 := Lib.hid hbd.2.2
    clear hbd hnv
    by_cases hlt : b < 256
    · have hd : decide ((b : Int) < 256) = true := by simp; omega
      obtain ⟨v0, hu0⟩ : ∃ v0, cs[b]? = some v0 := ⟨_, Array.getElem?_eq_getElem (by have := HF.out.1; omega)⟩
      have kb := K.cell b
      rw [hu0] at kb
      have kf := K.frozen b
      have K1 := K.set_ b (.int .i64 nv)
      have hb3 := hb.setCell (p := ⟨w.heap.size, b, none⟩) (by simp) (.int .i64 nv)
      have HF1 := Lib.hid (HF.out.push hlt nv)
      clear hu0
      go_wp2_with fail
      go_loopw [6] (fun aa wx => ∃ a : Nat, a ≤ b ∧ aa = .int .i64 a ∧ Blk wx w.heap.size 3 (cs.setIfInBounds b (.int .i64 nv)) ∧ Below w.heap.size w wx ∧ Hid (∀ y, y < a → eqv l y b = false)) (fun aa _ => b - (intOf aa).toNat)
      case atStart => exact ⟨0, by omega, rfl, K1, hb3, fun y hy => absurd hy (by omega)⟩
      case round =>
        obtain ⟨a, hab, rfl, Ka, hba, HE⟩ := hrel
        have hsa := hba.size
        clear kb kf K1 hb3
        by_cases hla : a < b
        · have hda : decide (a < b) = true := by simp [hla]
          have wa : IntKind.u8.wrap (a : Int) = (a : Int) := by unfold IntKind.wrap; simp [IntKind.bits, IntKind.signed]; omega
          have wb : IntKind.u8.wrap (b : Int) = (b : Int) := by unfold IntKind.wrap; simp [IntKind.bits, IntKind.signed]; omega
          go_wp2_with fail
          refine (equivalent_any A n c B a b l _ (HL.out.below (hba.mono hB)) (by omega) hn (by omega) (by omega)).mono ?_
          rintro e w2 ⟨rfl, hb2'⟩
          have Kc := Ka.below hb2' Ka.lt
          have hbc := hba.trans (hb2'.mono hsa)
          clear wa wb
          generalize hq : eqv l a b = q
          have HQ := Lib.hid hq
          clear hq
          cases q with
          | false =>
            go_wp2_with fail
            go_roundw
            case rel =>
              refine ⟨a + 1, by omega, by go_num, Kc, hbc, fun y hy => ?_⟩
              rcases Nat.lt_or_ge y a with h | h
              · exact HE.out y h
              · obtain rfl : y = a := by omega
                exact HQ.out
            case measure => simp [intOf]; omega
          | true =>
            have h3 := HF.out.2.2 a hla
            have hlen := HF.out.2.1
            have ka := Kc.cell a
            rw [Array.getElem?_setIfInBounds, if_neg (by omega), h3] at ka
            have kb := Kc.cell b
            rw [Array.getElem?_setIfInBounds, if_pos rfl, if_pos (by rw [HF.out.1]; omega)] at kb
            have kf := Kc.frozen b
            obtain ⟨x, hx⟩ : ∃ x, x = (classesL l b).1[a]?.getD 0 := ⟨_, rfl⟩
            rw [← hx] at ka
            have hxb : 0 ≤ x ∧ x ≤ b := HB3.out a x (by rw [hx, List.getElem?_eq_getElem (by omega)]; rfl)
            have Kd := Kc.set_ b (.int .i64 x)
            rw [set_set] at Kd
            have kd := Kd.cell b
            rw [Array.getElem?_setIfInBounds, if_pos rfl, if_pos (by rw [HF.out.1]; omega)] at kd
            have hbd := hbc.setCell (p := ⟨w.heap.size, b, none⟩) (by simp) (.int .i64 x)
            have HX := Lib.hid hx
            have HP := Lib.hid (HF.out.push hlt x)
            have HC := Lib.hid (classesL_some hla HE.out HQ.out)
            rw [← HX.out, ← HNV.out] at HC
            clear h3 hlen hx
            by_cases hxn : x = nv
            · have hxd : (x == nv) = true := by simp [hxn]
              have HXN := Lib.hid hxn
              clear hxn
              go_wp2_with fail
              go_roundw
              case rel =>
                have h5 : (classesL l (b + 1)).2 = nv + 1 := by rw [HC.out]; simp [HXN.out]
                have h6 : (classesL l (b + 1)).1 = (classesL l b).1 ++ [x] := by rw [HC.out]
                exact ⟨b + 1, _, by omega, by rw [h5], by go_num, Kd, by rw [h6]; exact HP.out, hbd⟩
              case measure => simp [intOf]; omega
            · have hxd : (x == nv) = false := by simp [hxn]
              have HXN := Lib.hid hxn
              clear hxn
              go_wp2_with fail
              go_roundw
              case rel =>
                have h5 : (classesL l (b + 1)).2 = nv := by rw [HC.out]; simp [HXN.out]
                have h6 : (classesL l (b + 1)).1 = (classesL l b).1 ++ [x] := by rw [HC.out]
                exact ⟨b + 1, _, by omega, by rw [h5], by go_num, Kd, by rw [h6]; exact HP.out, hbd⟩
              case measure => simp [intOf]; omega
        · have hda : decide (a < b) = false := by simp [hla]
          obtain rfl : a = b := by omega
          have kd := Ka.cell a
          rw [Array.getElem?_setIfInBounds, if_pos rfl, if_pos (by rw [HF.out.1]; omega)] at kd
          have HC := Lib.hid (classesL_none HE.out)
          rw [← HNV.out] at HC
          have hxd : (nv == nv) = true := by simp
          go_wp2_with fail
          go_roundw
          case rel =>
            have h5 : (classesL l (a + 1)).2 = nv + 1 := by rw [HC.out]
            have h6 : (classesL l (a + 1)).1 = (classesL l a).1 ++ [nv] := by rw [HC.out]
            exact ⟨a + 1, _, by omega, by rw [h5], by go_num, Ka, by rw [h6]; exact HF1.out, hba⟩
          case measure => simp [intOf]; omega
    · have hd : decide ((b : Int) < 256) = false := by simp; omega
      obtain rfl : b = 256 := by omega
      go_wp2_with fail
      go_ret
      exact ⟨rfl, ⟨cs, K, HF.out.all⟩, hb⟩
end Go.Proofs.Ythpdfgfefmoaaaa
