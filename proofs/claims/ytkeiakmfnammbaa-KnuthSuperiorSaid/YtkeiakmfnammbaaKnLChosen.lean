/- The law KnuthChosenEdges. -/
import Derived.Test.YtkeiakmfnammbaaKnLSolve
import Derived.Test.YtkeiakmfnammbaaAppAny
import Derived.Deep.AppendLies
import Derived.Deep.DeepCutAuto
namespace Go.Proofs.Ytkeiakmfnammbaa
open Go.RowKit

theorem infoHe : (Try.prog.info? 43).map (fun i => (i.zero, i.size, i.bytes)) = some (some (.agg #[.int .i64 0, .slice none 0 0, .int .i64 0, .int .i64 0, .int .i64 0]), 5, 56) := by kernel_rfl
/-- The chosen hyperedges of the first i nodes. -/
def chE (V : Nat → Vl) (es : List Ed) (i : Nat) : List Ed := (List.range i).filterMap fun n => if 0 ≤ cho V es n then es[(cho V es n).toNat]? else none
theorem chE_succ (V : Nat → Vl) (es : List Ed) (i : Nat) : chE V es (i + 1) = chE V es i ++ (if 0 ≤ cho V es i then (es[(cho V es i).toNat]?).toList else []) := by
  unfold chE
  rw [List.range_succ, List.filterMap_append]
  congr 1
  simp only [List.filterMap_cons, List.filterMap_nil]
  by_cases h : 0 ≤ cho V es i
  · rw [if_pos h, if_pos h]
    cases es[(cho V es i).toNat]? <;> rfl
  · rw [if_neg h, if_neg h]
theorem chE_neg {V : Nat → Vl} {es : List Ed} {i : Nat} (h : cho V es i = -1) : chE V es (i + 1) = chE V es i := by
  rw [chE_succ, h]; simp
theorem chE_pos {V : Nat → Vl} {es : List Ed} {i j : Nat} {e : Ed} (h : cho V es i = (j : Int)) (he : es[j]? = some e) : chE V es (i + 1) = chE V es i ++ [e] := by
  rw [chE_succ, h, if_pos (by omega), Int.toNat_natCast, he]; rfl
theorem chE_len (V : Nat → Vl) (es : List Ed) (i : Nat) : (chE V es i).length ≤ i := by
  have := List.length_filterMap_le (fun n => if 0 ≤ cho V es n then es[(cho V es n).toNat]? else none) (List.range i)
  simpa [chE] using this
theorem chE_sub {V : Nat → Vl} {es : List Ed} {i : Nat} : ∀ e ∈ chE V es i, e ∈ es := fun e he => by
  obtain ⟨n, _, hn⟩ := List.mem_filterMap.1 he
  split at hn
  · exact List.mem_of_getElem? hn
  · cases hn
theorem chE_all {V : Nat → Vl} {es : List Ed} {N i k : Nat} (hi : i < N) (h : cho V es i = (k : Nat)) : ∃ e, es[k]? = some e ∧ e ∈ chE V es N := by
  obtain ⟨k', e, hk, he, _⟩ := cho_pos (show 0 ≤ cho V es i by omega)
  obtain rfl : k = k' := by omega
  refine ⟨e, he, List.mem_filterMap.2 ⟨i, by simpa using hi, ?_⟩⟩
  rw [if_pos (by omega), h, Int.toNat_natCast, he]
theorem cho_cases (V : Nat → Vl) (es : List Ed) (i : Nat) : cho V es i = -1 ∨ ∃ (j : Nat) (e : Ed), cho V es i = (j : Int) ∧ es[j]? = some e := by
  by_cases h : 0 ≤ cho V es i
  · obtain ⟨k, e, hk, he, _⟩ := cho_pos h
    exact .inr ⟨k, e, hk, he⟩
  · have := (cho_bd V es i).1
    exact .inl (by omega)
theorem cho_beyond {es : List Ed} {V : Nat → Vl} {N i : Nat} (h : Sol es V) (hes : ∀ e ∈ es, e.Ok N) (hi : N ≤ i) : cho V es i = -1 := by
  rcases cho_cases V es i with h1 | ⟨j, e, h1, h2⟩
  · exact h1
  · obtain ⟨k, e', _, he', h3, _⟩ := cho_pos (show 0 ≤ cho V es i by omega)
    have := (hes e' (List.mem_of_getElem? he')).hd
    omega
/-- The list of hyperedges that a row of the call's own holds. -/
theorem HG.of_own {w : World} {base c : Nat} {A : Option Addr} {L es : List Ed} {B n : Nat} {E : Option Addr} (h : w.ownsRow base 43 5 (.slice A L.length c) L.length (eds L)) (hE : HG w B E n es) (hB : B ≤ w.heap.size) (hs : ∀ e ∈ L, e ∈ es) : HG w w.heap.size A L.length L :=
  ⟨Reads.of_own h, fun e he => (hE.2 e (hs e he)).more hB⟩
set_option maxRecDepth 100000 in
set_option maxHeartbeats 8000000 in
theorem lawChosen_any (Z : Int) (ce B : Nat) (E : Option Addr) (es : List Ed) (w : World) (hE : HG w B E es.length es) (hB : B ≤ w.heap.size) : Calls Try.prog 9 #[.agg #[.int .i64 Z, .slice E es.length ce]] w fun e w' => e = .returned (.bool true) ∧ Below w.heap.size w w' := by
  have HE := Lib.hid (hE.more hB)
  clear hE
  obtain ⟨M, hMM⟩ : ∃ M, es.length = M := ⟨_, rfl⟩
  rw [hMM] at HE ⊢
  have HMM := Lib.hid hMM
  clear hMM
  go_enter Try.func9, Try.ntmps9
  go_wp2_with fail
  obtain ⟨w1, hw1⟩ : ∃ w1, w.alloc (.cells #[.int .i64 Z, .slice E M ce] 34) = w1 := ⟨_, rfl⟩
  rw [hw1]
  obtain ⟨bh, hbh⟩ : ∃ bh, w.heap.size = bh := ⟨_, rfl⟩
  have HKH1 : Hid (Blk w1 bh 34 #[.int .i64 Z, .slice E M ce]) := by rw [← hw1]; exact Blk.new' w _ _ hbh
  have HB1 : Hid (Below w.heap.size w w1) := by rw [← hw1]; exact (Below.refl _ _).alloc (Nat.le_refl _) _
  try rw [hbh]
  have HBH := Lib.hid hbh
  clear hw1 hbh
  have hs := bounded_any w1 Z ce w.heap.size E es (by rw [HMM.out]; exact HE.out.below HB1.out) HB1.out.size
  rw [HMM.out] at hs
  refine hs.mono ?_
  rintro e w2 ⟨b, rfl, hb, hbw⟩
  have HBB := Lib.hid hb
  have HKH2 := Lib.hid (HKH1.out.below hbw HKH1.out.lt)
  have HB2 : Hid (Below w.heap.size w w2) := HB1.out.trans (hbw.mono HB1.out.size)
  clear hs hb hbw HKH1 HB1
  cases b with
  | false =>
    go_wp2_with fail
    refine (awake_any _).mono ?_
    rintro e wa ⟨rfl, hba⟩
    go_wp2_with fail
    go_ret
    exact ⟨rfl, HB2.out.trans (hba.mono HB2.out.size)⟩
  | true =>
  obtain ⟨N, hZ, hN1, hN2, hM, hok, V0, hsol0, hsz⟩ := HBB.out rfl
  rw [HMM.out] at hM
  subst hZ
  have HOK := Lib.hid hok
  have HS0 := Lib.hid (And.intro hsol0 hsz)
  have c0 : w2.cell? ⟨bh, 0, none⟩ = some (.int .i64 N) := HKH2.out.cell 0
  have c1 : w2.cell? ⟨bh, 1, none⟩ = some (.slice E M ce) := HKH2.out.cell 1
  clear hok HBB hsol0 hsz
  go_wp2_with fail
  have hs := solve_any w2 N ce w.heap.size E es (by rw [HMM.out]; exact HE.out.below HB2.out) HB2.out.size HOK.out hN2 (by rw [HMM.out]; exact hM)
  rw [HMM.out] at hs
  refine hs.mono ?_
  rintro e w3 ⟨va, ea, V, rfl, hVl, KV, KE, hsol, _, _, hbw⟩
  have HV3 := Lib.hid KV
  have HA3 := Lib.hid KE
  have HS := Lib.hid (And.intro hsol hVl)
  have HKH3 := Lib.hid (HKH2.out.below hbw HKH2.out.lt)
  have HB3 : Hid (Below w.heap.size w w3) := HB2.out.trans (hbw.mono HB2.out.size)
  clear hs hsol hVl KV KE hbw
  have c0' : w3.cell? ⟨bh, 0, none⟩ = some (.int .i64 N) := HKH3.out.cell 0
  have c1' : w3.cell? ⟨bh, 1, none⟩ = some (.slice E M ce) := HKH3.out.cell 1
  have hqN : ((N : Int) != (N : Int)) = false := by simp
  clear c0 c1
  obtain ⟨i0, hi0, hz0, hz1, hz2⟩ := info_parts infoHe
  go_wp2_with fail
  clear c0' c1' hqN
  obtain ⟨w4, hw4⟩ : ∃ w4, w3.alloc (.cells #[.int .i64 N, .slice none 0 0] 34) = w4 := ⟨_, rfl⟩
  obtain ⟨pb, hpb⟩ : ∃ pb, w3.heap.size = pb := ⟨_, rfl⟩
  have HP4 : Hid (Blk w4 pb 34 #[.int .i64 N, .slice none 0 0]) := by rw [← hw4]; exact Blk.new' w3 _ _ hpb
  have hx4 : Below w3.heap.size w3 w4 := by rw [← hw4]; exact (Below.refl _ _).alloc (Nat.le_refl _) _
  have HKH4 := Lib.hid (HKH3.out.below hx4 HKH3.out.lt)
  have HV4 := Lib.hid (HV3.out.below hx4 HV3.out.lt)
  have HA4 := Lib.hid (HA3.out.below hx4 HA3.out.lt)
  have HB4 : Hid (Below w.heap.size w w4) := HB3.out.trans (hx4.mono HB3.out.size)
  rw [hw4]
  try rw [hpb]
  have HPB : Hid (w.heap.size ≤ pb) := by have := HB3.out.size; show w.heap.size ≤ pb; omega
  clear hw4 hpb hx4 HKH3 HV3 HA3 HB3
  go_loopw [6, 7] (fun v x wr => ∃ i : Nat, i ≤ N ∧ x = .int .i64 i ∧ Hid (wr.ownsRow w4.heap.size 43 5 v (chE (gv V) es i).length (eds (chE (gv V) es i))) ∧ Hid (Below w4.heap.size w4 wr)) (fun _ x _ => N - (intOf x).toNat)
  case atStart => exact ⟨0, Nat.zero_le _, rfl, World.ownsRow_nil _ _ _ _, Below.refl _ _⟩
  case round =>
    obtain ⟨i, hi, rfl, HO, HBR⟩ := hrel
    have HKH5 := Lib.hid (HKH4.out.below HBR.out HKH4.out.lt)
    have HV5 := Lib.hid (HV4.out.below HBR.out HV4.out.lt)
    have HA5 := Lib.hid (HA4.out.below HBR.out HA4.out.lt)
    have HP5 := Lib.hid (HP4.out.below HBR.out HP4.out.lt)
    have HB5 : Hid (Below w.heap.size w wr) := HB4.out.trans (HBR.out.mono HB4.out.size)
    have c0 : wr.cell? ⟨bh, 0, none⟩ = some (.int .i64 N) := HKH5.out.cell 0
    have c1 : wr.cell? ⟨bh, 1, none⟩ = some (.slice E M ce) := HKH5.out.cell 1
    have hlen := chE_len (gv V) es i
    obtain ⟨L, hL⟩ : ∃ L, chE (gv V) es i = L := ⟨_, rfl⟩
    have HLL := Lib.hid hL
    rw [hL] at HO hlen
    have hown := HO.out
    obtain ⟨A, cA, rfl, hlc, _⟩ := own_form hown
    clear hown hL
    by_cases hlt : i < N
    case neg =>
      have hltD : decide (i < N) = false := by simp [hlt]
      obtain rfl : N = i := by omega
      have p0 : wr.cell? ⟨pb, 0, none⟩ = some (.int .i64 N) := HP5.out.cell 0
      have p1 : wr.cell? ⟨pb, 1, none⟩ = some (.slice none 0 0) := HP5.out.cell 1
      have z1 := HP5.out.frozen 1
      go_wp2_with fail
      have hne : pb < w4.heap.size := HP4.out.lt
      have HOX := Lib.hid (own_touch HO.out (F := fun k => k = pb) ((Touch.refl (fun k => k = pb) wr).setCell (p := ⟨pb, 1, none⟩) (.inl rfl) (.slice A L.length cA)) (fun k hk e => by have := own_ge HO.out hk; omega))
      have HBX : Hid (Below w.heap.size w (wr.setCell ⟨pb, 1, none⟩ (.slice A L.length cA))) := HB5.out.setCell (p := ⟨pb, 1, none⟩) HPB.out _
      have hsub : ∀ e ∈ L, e ∈ es := by rw [← HLL.out]; exact chE_sub
      have hL30 : L.length ≤ 30 := by omega
      have HVX : Hid (Blk (wr.setCell ⟨pb, 1, none⟩ (.slice A L.length cA)) va 23 (vls V).toArray) := HV5.out.far (p := ⟨pb, 1, none⟩) (Blk.ne_ HV5.out HP5.out (by decide)) _
      refine (solve_any _ N cA _ A L (HG.of_own HOX.out (HE.out.below HBX.out) HBX.out.size hsub) (Nat.le_refl _) (fun e he => HOK.out e (hsub e he)) hN2 (by omega)).mono ?_
      rintro e w6 ⟨va', ea', V', rfl, hVl, KV, _, hsol, _, _, hbw⟩
      have hsol2 : Sol L (gv V) := HS.out.1.chosen HOK.out (fun i => by rw [HS.out.1.uniq HS0.out.1]; exact HS0.out.2 i) hsub (fun i k hk => by
        rw [← HLL.out]
        by_cases hiN : i < N
        · exact chE_all hiN hk
        · rw [cho_beyond HS.out.1 HOK.out (by omega)] at hk
          omega)
      obtain rfl : V = V' := vals_eq hsol2 hsol (HS.out.2.trans hVl.symm)
      have HV6 := Lib.hid (HVX.out.below hbw HVX.out.lt)
      have HV6' := Lib.hid KV
      have HB6 : Hid (Below w.heap.size w w6) := HBX.out.trans (hbw.mono HBX.out.size)
      clear hsol hVl KV hbw hsol2 hsub p0 p1 z1
      go_wp2_with fail
      refine (awake_any w6).mono ?_
      rintro e w7 ⟨rfl, hb7⟩
      go_wp2_with fail
      refine (samev_any w7 (some ⟨va, 0, none⟩) (some ⟨va', 0, none⟩) N N N w7.heap.size w7.heap.size V (Reads.of_blk (HV6.out.below hb7 HV6.out.lt) (Nat.lt_of_lt_of_le HV6.out.lt hb7.size) (by simp) (by rw [vls_length, HS.out.2])) (Reads.of_blk (HV6'.out.below hb7 HV6'.out.lt) (Nat.lt_of_lt_of_le HV6'.out.lt hb7.size) (by simp) (by rw [vls_length, HS.out.2])) (by omega)).mono ?_
      rintro e w8 ⟨rfl, hb8⟩
      go_wp2_with fail
      go_ret
      exact ⟨rfl, HB6.out.trans ((hb7.trans (hb8.mono hb7.size)).mono HB6.out.size)⟩
    case pos =>
      have hltD : decide (i < N) = true := by simp [hlt]
      have hch : (chs (gv V) es N)[i]? = some (cho (gv V) es i) := chs_at hlt
      rcases cho_cases (gv V) es i with hj | ⟨j, e, hj, he⟩
      · have x0 : wr.cell? ⟨ea, i, none⟩ = some (.int .i64 (-1)) := by rw [HA5.out.cell]; simp [ints, hch, hj]
        have hjD2 : decide ((M : Int) ≤ (-1 : Int)) = false := by simp; omega
        have hnx := chE_neg hj
        have HNX := Lib.hid hnx
        clear hj hch hnx
        go_upto_region 11 with fail
        go_quiet (fail)
        go_wp2_with fail
        go_roundw
        case rel => exact ⟨i + 1, by omega, by go_num, by rw [HNX.out, HLL.out]; exact own_below HO.out (below_drewN (Below.refl _ _) _), below_drewN HBR.out _⟩
        case measure => simp [intOf]; omega
      · have hjM : j < M := by have := (List.getElem?_eq_some_iff.1 he).1; have := HMM.out; omega
        have x0 : wr.cell? ⟨ea, i, none⟩ = some (.int .i64 (j : Int)) := by rw [HA5.out.cell]; simp [ints, hch, hj]
        have hjD : decide (M ≤ j) = false := by simp; omega
        have hjD2 : decide ((M : Int) ≤ (j : Int)) = false := by simp; omega
        have hjn : decide ((j : Int) < 0) = false := by simp
        have hjp : decide ((0 : Int) ≤ (j : Int)) = true := by simp
        obtain ⟨b', off, e', hE', hb', he', p0, p1, p2, p3, p4, hR⟩ := (HE.out.below HB5.out).at_ hjM
        rw [he] at he'
        injection he' with he'
        subst he'
        rw [hE'] at c1
        have hnx := chE_pos hj he
        have HNX := Lib.hid hnx
        clear hj hch hnx he hR hE'
        go_upto_region 11 with fail
        go_quiet (fail)
        go_upto_region 14 with fail
        obtain ⟨w6, hw6⟩ : ∃ w6, wr.drewN nq = w6 := ⟨_, rfl⟩
        have hx6 : Below wr.heap.size wr w6 := by rw [← hw6]; exact below_drewN (Below.refl _ _) _
        rw [hw6]
        have HO6 := Lib.hid (own_below HO.out hx6)
        have HBR6 : Hid (Below w4.heap.size w4 w6) := HBR.out.trans (hx6.mono HBR.out.size)
        have s1 : w6.cell? ⟨ea, i, none⟩ = some (.int .i64 (j : Int)) := by rw [← hw6]; exact x0
        have s2 : w6.cell? ⟨bh, 1, none⟩ = some (.slice (some ⟨b', off, none⟩) M ce) := by rw [← hw6]; exact c1
        have s3 : w6.cell? ⟨b', off + j * 5, none⟩ = some (.int .i64 e.hd) := by rw [← hw6]; exact p0
        have s4 : w6.cell? ⟨b', off + j * 5 + 1, none⟩ = some (.slice e.A e.ts.length e.c) := by rw [← hw6]; exact p1
        have s5 : w6.cell? ⟨b', off + j * 5 + 2, none⟩ = some (.int .i64 e.cost) := by rw [← hw6]; exact p2
        have s6 : w6.cell? ⟨b', off + j * 5 + 3, none⟩ = some (.int .i64 e.l0) := by rw [← hw6]; exact p3
        have s7 : w6.cell? ⟨b', off + j * 5 + 4, none⟩ = some (.int .i64 e.l1) := by rw [← hw6]; exact p4
        have hz6 : w4.heap.size ≤ w6.heap.size := HBR6.out.size
        have hlt1 : ea < w4.heap.size := HA4.out.lt
        have hlt2 : bh < w4.heap.size := HKH4.out.lt
        have hlt3 : b' < w4.heap.size := by have := HB4.out.size; omega
        have H9 : Hid (∀ w9, Below w4.heap.size w6 w9 → w9.cell? ⟨ea, i, none⟩ = some (.int .i64 (j : Int)) ∧ w9.cell? ⟨bh, 1, none⟩ = some (.slice (some ⟨b', off, none⟩) M ce) ∧ w9.cell? ⟨b', off + j * 5, none⟩ = some (.int .i64 e.hd) ∧ w9.cell? ⟨b', off + j * 5 + 1, none⟩ = some (.slice e.A e.ts.length e.c) ∧ w9.cell? ⟨b', off + j * 5 + 2, none⟩ = some (.int .i64 e.cost) ∧ w9.cell? ⟨b', off + j * 5 + 3, none⟩ = some (.int .i64 e.l0) ∧ w9.cell? ⟨b', off + j * 5 + 4, none⟩ = some (.int .i64 e.l1)) := fun w9 h =>
          ⟨((bcell h).1 _ _ hlt1).trans s1, ((bcell h).1 _ _ hlt2).trans s2, ((bcell h).1 _ _ hlt3).trans s3, ((bcell h).1 _ _ hlt3).trans s4, ((bcell h).1 _ _ hlt3).trans s5, ((bcell h).1 _ _ hlt3).trans s6, ((bcell h).1 _ _ hlt3).trans s7⟩
        have B8 : Below w4.heap.size w6 w6.drew := (Below.refl _ _).drew
        have B8' : Below w4.heap.size w6 (w6.alloc (.cells #[.int .i64 e.hd, .slice e.A e.ts.length e.c, .int .i64 e.cost, .int .i64 e.l0, .int .i64 e.l1] 43)).drew := ((Below.refl _ w6).alloc hz6 _).drew
        have HOA : Hid ((w6.alloc (.cells #[.int .i64 e.hd, .slice e.A e.ts.length e.c, .int .i64 e.cost, .int .i64 e.l0, .int .i64 e.l1] 43)).drew.ownsRow w4.heap.size 43 5 (.slice A L.length cA) L.length (eds L)) := own_below HO6.out (((Below.refl _ w6).alloc (Nat.le_refl _) _).drew)
        have NEWS : Hid (∀ k v, ([.int .i64 e.hd, .slice e.A e.ts.length e.c, .int .i64 e.cost, .int .i64 e.l0, .int .i64 e.l1] : List Value)[k]? = some v → ((w6.alloc (.cells #[.int .i64 e.hd, .slice e.A e.ts.length e.c, .int .i64 e.cost, .int .i64 e.l0, .int .i64 e.l1] 43)).drew).cell? ((⟨w6.heap.size, 0, none⟩ : Addr).add k) = some v) :=
          World.news_of_block (Blk.new' w6 43 #[.int .i64 e.hd, .slice e.A e.ts.length e.c, .int .i64 e.cost, .int .i64 e.l0, .int .i64 e.l1] rfl)
        have hsz : Hid (((w6.alloc (.cells #[.int .i64 e.hd, .slice e.A e.ts.length e.c, .int .i64 e.cost, .int .i64 e.l0, .int .i64 e.l1] 43)).drew).heap.size = w6.heap.size + 1) := by show (w6.alloc _).heap.size = _; simp
        have HZB : Hid (w4.heap.size ≤ ((w6.alloc (.cells #[.int .i64 e.hd, .slice e.A e.ts.length e.c, .int .i64 e.cost, .int .i64 e.l0, .int .i64 e.l1] 43)).drew).heap.size) := by show w4.heap.size ≤ _; rw [hsz.out]; omega
        clear x0 c0 c1 p0 p1 p2 p3 p4 s1 s2 s3 s4 s5 s6 s7 hw6
        go_region_held3 (fun w' => w'.cell? ⟨ea, i, none⟩ = some (.int .i64 (j : Int)) ∧ w'.cell? ⟨bh, 1, none⟩ = some (.slice (some ⟨b', off, none⟩) M ce) ∧ w'.cell? ⟨b', off + j * 5, none⟩ = some (.int .i64 e.hd) ∧ w'.cell? ⟨b', off + j * 5 + 1, none⟩ = some (.slice e.A e.ts.length e.c) ∧ w'.cell? ⟨b', off + j * 5 + 2, none⟩ = some (.int .i64 e.cost) ∧ w'.cell? ⟨b', off + j * 5 + 3, none⟩ = some (.int .i64 e.l0) ∧ w'.cell? ⟨b', off + j * 5 + 4, none⟩ = some (.int .i64 e.l1))
          (first | exact H9.out _ B8 | exact H9.out _ B8' | exact H9.out _ X9)
          (first | (refine step_append_lies _ (by rfl) _ _ 32 (by rfl) w4.heap.size 43 i0 (.agg #[.int .i64 0, .slice none 0 0, .int .i64 0, .int .i64 0, .int .i64 0]) 5 56 Try.underlying32 hi0 hz0 hz1 hz2 rfl (by decide) (.slice A L.length cA) L.length (eds L) (by rfl) HOA.out ⟨w6.heap.size, 0, none⟩ 1 1 [.int .i64 e.hd, .slice e.A e.ts.length e.c, .int .i64 e.cost, .int .i64 e.l0, .int .i64 e.l1] (by rfl) (by rfl) NEWS.out (by simp [Value.oneCell']) (by omega) (by unfold maxLen; omega) (by omega) HZB.out (w6.heap.size + 1) hsz.out ?_; intro gg cap w9 hown9 hgrow hat hlt9; have HOW9 := Lib.hid hown9; have X9 : Below w4.heap.size w6 w9 := B8'.grown hgrow HZB.out (fun k hk => own_ge HOA.out hk); clear hown9 hgrow hat))
        all_goals
          go_wp2_with fail
          go_roundw
          case rel => exact ⟨i + 1, by omega, by go_num, by rw [HNX.out, HLL.out, List.length_append, eds_append]; exact HOW9.out, HBR6.out.trans X9⟩
          case measure => simp [intOf]; omega
end Go.Proofs.Ytkeiakmfnammbaa
