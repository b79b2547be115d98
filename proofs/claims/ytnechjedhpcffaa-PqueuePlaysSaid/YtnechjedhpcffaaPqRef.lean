/- The reference's queue in memory; its first. -/
import Derived.Test.YtnechjedhpcffaaPqAwake
import Derived.Test.YtnechjedhpcffaaAppAny
import Derived.Deep.DeepCutAuto
import Derived.Deep.AppendLies
namespace Go.Proofs.Ytnechjedhpcffaa
open Go.RowKit

/-- Blocks that are not the queue's, from base on. -/
def Off (base : Nat) (F : Nat → Prop) (k : Nat) : Prop := ¬ F k ∧ base ≤ k
/-- The reference's queue, beside another whose blocks are F. -/
def RQ (w : World) (base : Nat) (F : Nat → Prop) (g : Nat) (L : List Ent) (nx ck : Nat) : Prop :=
  ∃ A c, Blk w g 41 #[.slice A L.length c, .int .i64 nx, .int .i64 ck] ∧ w.ownsRow base 57 4 (.slice A L.length c) L.length (ents L) ∧ Off base F g ∧ ∀ k, (Value.slice A L.length c).ownBlock = some k → Off base F k
section
variable {w w' : World} {base g nx ck : Nat} {F G : Nat → Prop} {L : List Ent}
theorem RQ.touch (h : RQ w base F g L nx ck) {X : Nat → Prop} (ht : Touch X w w') (hX : ∀ k, Off base F k → ¬ X k) : RQ w' base F g L nx ck := by
  obtain ⟨A, c, K, O, h1, h2⟩ := h
  exact ⟨A, c, K.touch ht (hX _ h1), own_touch O ht (fun k hk => hX k (h2 k hk)), h1, h2⟩
theorem RQ.below (h : RQ w base F g L nx ck) (hb : Below w.heap.size w w') : RQ w' base F g L nx ck := h.touch (X := fun _ => False) (Touch.of_below hb) (fun _ _ h => h)
theorem RQ.step (h : RQ w base F g L nx ck) (hs : Step base w F w' G) : RQ w' base G g L nx ck := by
  obtain ⟨A, c, K, O, h1, h2⟩ := h.touch hs.touch (fun k hk => hk.1)
  obtain ⟨A0, c0, K0, O0, h10, h20⟩ := h
  have hlt : ∀ k, k < w.heap.size → Off base F k → Off base G k := fun k hk ho => ⟨fun hg => by rcases hs.new k hg with h3 | h3; exact ho.1 h3; omega, ho.2⟩
  have hK := K0.lt
  have e := K.cell 0
  have e0 := K0.touch hs.touch h10.1
  have e1 := e0.cell 0
  rw [e] at e1
  simp at e1
  obtain ⟨e2, e3⟩ := e1
  subst e2 e3
  exact ⟨A, c, K, O, hlt g hK h1, fun k hk => hlt k (own_lt O0 hk) (h2 k hk)⟩
theorem RQ.lt (h : RQ w base F g L nx ck) : g < w.heap.size := by obtain ⟨A, c, K, _⟩ := h; exact K.lt
/-- The program's queue beside what the reference's turns. -/
theorem QB.off {q : Nat} (h : QB w base q F L nx ck) (ht : Touch (Off base F) w w') : QB w' base q F L nx ck := h.far ht (fun k hk ho => ho.1 hk)
theorem Touch.offBelow (ht : Touch (Off base F) w w') (hb : base ≤ w.heap.size) : Below base w w' := ht.toBelow (fun k hk => hk.2) hb
end
/-- The index of the first entry among the first k. -/
def FstK (L : List Ent) (k : Nat) (b : Int) : Prop := (k = 0 ∧ b = -1) ∨ ∃ (j : Nat) (m : Ent), b = (j : Int) ∧ j < k ∧ L[j]? = some m ∧ ∀ i e, i < k → i ≠ j → L[i]? = some e → bf m e = true
theorem fstK_same {L : List Ent} {k j : Nat} {m e : Ent} (h : FstK L k (j : Int)) (hm : L[j]? = some m) (he : L[k]? = some e) (hb : bf e m = false) (hd : e.t ≠ m.t) : FstK L (k + 1) (j : Int) := by
  rcases h with ⟨_, h⟩ | ⟨j', m', h1, h2, h3, h4⟩
  · omega
  · obtain rfl : j = j' := by omega
    rw [hm] at h3
    injection h3 with h3
    subst h3
    refine .inr ⟨j, m, rfl, by omega, hm, fun i x hi hij hx => ?_⟩
    by_cases hik : i = k
    · subst hik
      rw [he] at hx
      injection hx with hx
      subst hx
      exact bf_total hd hb
    · exact h4 i x (by omega) hij hx
theorem fstK_next {L : List Ent} {k j : Nat} {m e : Ent} (h : FstK L k (j : Int)) (hm : L[j]? = some m) (he : L[k]? = some e) (hb : bf e m = true) : FstK L (k + 1) (k : Int) := by
  rcases h with ⟨_, h⟩ | ⟨j', m', h1, h2, h3, h4⟩
  · omega
  · obtain rfl : j = j' := by omega
    rw [hm] at h3
    injection h3 with h3
    subst h3
    refine .inr ⟨k, e, rfl, by omega, he, fun i x hi hik hx => ?_⟩
    by_cases hij : i = j
    · subst hij
      rw [hm] at hx
      injection hx with hx
      subst hx
      exact hb
    · have h5 := h4 i x (by omega) hij hx
      rw [bf_iff] at *
      omega
theorem fstK_zero {L : List Ent} {e : Ent} (he : L[0]? = some e) : FstK L 1 (0 : Int) := .inr ⟨0, e, rfl, by omega, he, fun i x hi hi0 _ => by omega⟩
theorem fstK_end {L : List Ent} {b : Int} (h : FstK L L.length b) : (L = [] ∧ b = -1) ∨ ∃ (j : Nat) (m : Ent), b = (j : Int) ∧ L[j]? = some m ∧ IsMin m L := by
  rcases h with ⟨h1, h2⟩ | ⟨j, m, h1, h2, h3, h4⟩
  · exact .inl ⟨List.eq_nil_of_length_eq_zero h1, h2⟩
  · refine .inr ⟨j, m, h1, h3, List.mem_of_getElem? h3, fun e he hne => ?_⟩
    obtain ⟨i, hi⟩ := List.getElem?_of_mem he
    refine h4 i e (List.getElem?_eq_some_iff.1 hi).1 (fun e1 => ?_) hi
    subst e1
    rw [h3] at hi
    injection hi with hi
    subst hi
    exact hne rfl
theorem bf_ways (a b : Ent) : (decide (a.key < b.key) = true ∧ bf a b = true) ∨ (decide (a.key < b.key) = false ∧ (a.key == b.key) = true ∧ decide (a.t < b.t) = true ∧ bf a b = true) ∨ (decide (a.key < b.key) = false ∧ (a.key == b.key) = true ∧ decide (a.t < b.t) = false ∧ bf a b = false) ∨ (decide (a.key < b.key) = false ∧ (a.key == b.key) = false ∧ bf a b = false) := by
  simp only [decide_eq_true_eq, decide_eq_false_iff_not, beq_iff_eq, beq_eq_false_iff_ne, bf_iff, bf_no, ne_eq]
  omega
set_option maxRecDepth 100000 in
set_option maxHeartbeats 8000000 in
theorem first_any (w : World) (g n c : Nat) (A : Option Addr) (L : List Ent) (nx ck : Int) (K : Blk w g 41 #[.slice A n c, .int .i64 nx, .int .i64 ck]) (hR : Reads w w.heap.size 4 A n (ents L)) (hd : (L.map Ent.t).Nodup) (hn : n ≤ 1000000) :
    Calls Try.prog 24 #[.pointer (some ⟨g, 0, none⟩)] w fun e w' => ∃ b : Int, e = .returned (.int .i64 b) ∧ FstK L n b ∧ ∃ k, w' = w.drewN k := by
  have HR := Lib.hid hR
  have HD := Lib.hid hd
  have HL := Lib.hid hR.len_ents
  have c0 : w.cell? ⟨g, 0, none⟩ = some (.slice A n c) := K.cell 0
  have C0 := Lib.hid c0
  clear hR hd K c0
  go_enter Try.func24, Try.ntmps24
  go_wp2_with fail
  go_loopw [3, 4] (fun x y wr => ∃ (k : Nat) (b : Int), k ≤ n ∧ x = .int .i64 b ∧ y = .int .i64 k ∧ Hid (FstK L k b) ∧ Hid (∃ j, wr = w.drewN j)) (fun _ y _ => n - (intOf y).toNat)
  case atStart => exact ⟨0, -1, Nat.zero_le _, rfl, rfl, .inl ⟨rfl, rfl⟩, drew0 w⟩
  case round =>
    obtain ⟨k, b, hk, rfl, rfl, HF, HW⟩ := hrel
    obtain ⟨nw, rfl⟩ := HW.out
    have c0 := C0.out
    by_cases hlt : k < n
    case neg =>
      have hltD : decide (k < n) = false := by simp [hlt]
      obtain rfl : n = k := by omega
      go_wp2_with fail
      go_ret
      exact ⟨b, rfl, HF.out, nw, rfl⟩
    case pos =>
      have hltD : decide (k < n) = true := by simp [hlt]
      obtain ⟨bb, off, t, hA, _, ht, p0, p1, p2, p3⟩ := HR.out.ent_at hlt
      subst hA
      have HT := Lib.hid ht
      clear ht
      by_cases hb : b < 0
      case pos =>
        have hbD : decide (b < 0) = true := by simp [hb]
        obtain ⟨rfl, rfl⟩ : k = 0 ∧ b = -1 := by
          rcases HF.out with h | ⟨j, m, h1, h2, _⟩
          · exact h
          · omega
        clear hb
        go_wp2_with fail
        go_quiet (fail)
        go_wp2_with fail
        go_roundw
        case rel => exact ⟨1, 0, by omega, rfl, rfl, fstK_zero HT.out, drew1 _ _⟩
        case measure => simp [intOf]; omega
      case neg =>
        have hbD : decide (b < 0) = false := by simp [hb]
        obtain ⟨j, rfl⟩ := Int.eq_ofNat_of_zero_le (show 0 ≤ b by omega)
        obtain ⟨m, hm, hjk⟩ : ∃ m, L[j]? = some m ∧ j < k := by
          rcases HF.out with ⟨_, h⟩ | ⟨j', m, h1, h2, h3, _⟩
          · omega
          · obtain rfl : j = j' := by omega
            exact ⟨m, h3, h2⟩
        obtain ⟨bb', off', m', hA, _, hm', q0, q1, q2, q3⟩ := HR.out.ent_at (show j < n by omega)
        injection hA with hA
        injection hA with e1 e2 _
        subst e1 e2
        rw [hm] at hm'
        injection hm' with hm'
        subst hm'
        have hdd : t.t ≠ m.t := fun e => by
          have := uniq_map HD.out (List.mem_of_getElem? HT.out) (List.mem_of_getElem? hm) e
          subst this
          have a1 : (L.map Ent.t)[k]? = some t.t := by rw [List.getElem?_map, HT.out]; rfl
          have a2 : (L.map Ent.t)[j]? = some t.t := by rw [List.getElem?_map, hm]; rfl
          have := (List.getElem?_inj (List.getElem?_eq_some_iff.1 a1).1 HD.out).1 (a1.trans a2.symm)
          omega
        have HDD := Lib.hid hdd
        have HM := Lib.hid hm
        have hways := bf_ways t m
        clear hb hm hdd p1 p2 q1 q2
        go_wp2_with fail
        rcases hways with ⟨h1, h2⟩ | ⟨h1, h2, h3, h4⟩ | ⟨h1, h2, h3, h4⟩ | ⟨h1, h2, h3⟩
        · go_quiet (fail)
          go_wp2_with fail
          go_roundw
          case rel => exact ⟨k + 1, k, by omega, rfl, by go_num, fstK_next HF.out HM.out HT.out h2, drew1 _ _⟩
          case measure => simp [intOf]; omega
        · go_quiet (fail)
          go_wp2_with fail
          go_roundw
          case rel => exact ⟨k + 1, k, by omega, rfl, by go_num, fstK_next HF.out HM.out HT.out h4, drew1 _ _⟩
          case measure => simp [intOf]; omega
        · go_quiet (fail)
          go_wp2_with fail
          go_roundw
          case rel => exact ⟨k + 1, j, by omega, rfl, by go_num, fstK_same HF.out HM.out HT.out h4 HDD.out, drew1 _ _⟩
          case measure => simp [intOf]; omega
        · go_quiet (fail)
          go_wp2_with fail
          go_roundw
          case rel => exact ⟨k + 1, j, by omega, rfl, by go_num, fstK_same HF.out HM.out HT.out h3 HDD.out, drew1 _ _⟩
          case measure => simp [intOf]; omega
end Go.Proofs.Ytnechjedhpcffaa
