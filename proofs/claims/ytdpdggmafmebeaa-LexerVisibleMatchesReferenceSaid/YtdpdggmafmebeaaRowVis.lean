/- LexerVisibleMatchesReference: for every specification and list of tokens the law returns true; the arguments read as they did. -/
import Derived.Test.YtdpdggmafmebeaaOpenTok
import Derived.Test.YtdpdggmafmebeaaLawVis
import Derived.Test.YtdpdggmafmebeaaVisible
namespace Go.Proofs.Ytdpdggmafmebeaa
open Go.ChangeShapes Go.WideShapes Go.ChangeAt Go.RowKit Go.Joins

theorem cells_spec : Try.prog.cellsOf 39 = 4 := by kernel_rfl
theorem cells_def : Try.prog.cellsOf 48 = 5 := by kernel_rfl
theorem open_spec {H : Type} {enc : TypeId × Value → H} {W : World} {r : Reach} {b0 : Nat} {v : Value} {d : DataW H} {p : List MemPlace} (hv : Value.okWide Try.prog W r b0 39 v) (h : DataW.Trod enc Try.prog W 0 (fun _ => true) true 39 v d p) :
    ∃ (Ad : Option Addr) (nd cd : Nat) (ly : Bool) (ms uc : Int) (ks : List Int), v = .agg #[.slice Ad nd cd, .bool ly, .int .i64 ms, .int .i64 uc] ∧ Kinds W W.heap.size Ad nd ks ∧ nd ≤ maxLen := by
  obtain ⟨v0, v1, v2, v3, y0, y1, y2, y3, n, rfl, _, _, h0, h1, h2, h3⟩ := open_agg4 Try.underlying39 (by kernel_rfl) cells_spec hv h
  obtain ⟨ly, e1, _⟩ := DataW.trod_bool Try.underlying4 h1
  obtain ⟨ms, e2, _⟩ := DataW.trod_int Try.underlying3 h2
  obtain ⟨uc, e3, _⟩ := DataW.trod_int Try.underlying3 h3
  simp at e1 e2 e3
  subst e1; subst e2; subst e3
  rcases open_slice_fields Try.underlying37 Try.underlying48 (by kernel_rfl) cells_def h0 with ⟨hcs, _⟩ | ⟨a, len, cap, m, D, Pl, hcs, _, hl, hm, hmm, _, hi⟩
  · simp at hcs
    subst hcs
    exact ⟨none, 0, 0, ly, ms, uc, [], rfl, ⟨rfl, fun h => absurd h (by omega)⟩, by unfold maxLen; omega⟩
  · simp at hcs
    subst hcs
    simp only [if_true] at hmm
    subst hmm
    have each : ∀ i : Fin len, ∃ k : Int, W.cell? (a.add (i * 5 + 1)) = some (.int .i64 k) := by
      intro i
      obtain ⟨ys, n, _, _, _, hf⟩ := hi i.1 (by have := i.2; omega)
      obtain ⟨u1, y1, c1, _, t1⟩ := hf 1 _ rfl
      obtain ⟨q, e1, _, _⟩ := DataW.trod_int Try.underlying3 t1
      simp at e1
      subst e1
      exact ⟨q, c1⟩
    let q : Fin len → Int := fun i => Classical.choose (each i)
    have hq := fun i => Classical.choose_spec (each i)
    refine ⟨some a, len, _, ly, ms, uc, List.ofFn q, rfl, ⟨by simp, fun hn => ?_⟩, by omega⟩
    have hz := hi 0 (by omega)
    obtain ⟨ys, n, _, _, _, hf⟩ := hz
    obtain ⟨u0, y0, c0, _, _⟩ := hf 0 _ rfl
    have ha := addr_form c0
    refine ⟨a.block, a.off, by rw [← ha], ?_, fun k hk => ?_⟩
    · have := World.block_lt_of_cell? W _ c0
      rw [block_of_add] at this
      exact this
    · have hqk : W.cell? (a.add (k * 5 + 1)) = some (.int .i64 (q ⟨k, hk⟩)) := hq ⟨k, hk⟩
      have hqo : (List.ofFn q)[k]?.getD 0 = q ⟨k, hk⟩ := by rw [List.getElem?_ofFn, dif_pos hk]; rfl
      rw [hqo]
      generalize q ⟨k, hk⟩ = z at hqk
      rw [ha, Addr.add_lit] at hqk
      simpa [Nat.add_assoc] using hqk

set_option maxRecDepth 100000 in
theorem lawVis_lifted (os : Os) (started : os.Started) (H : Type) (enc : TypeId × Value → H) :
    ReturnsInHanded {} Try.checked os 9 .any (Rows.lexerVisibleMatchesReferenceSpec.pre6 enc Try.prog Try.f9 Rows.lexerVisibleMatchesReferenceRow.domain false)
      (Rows.lexerVisibleMatchesReferenceSpec.post enc Try.prog Try.f9 false true false false) := by
  refine returnsInHanded_of_change_sized (C := Try.checked) Try.own started (by kernel_rfl) Try.func9
    (ChangeSpec.witness6 (enc := enc) (C := Try.checked) false ⟨#[], #[.agg #[.slice none 0 0, .bool false, .int .i64 0, .int .i64 0], .slice none 0 0], []⟩ 8 (by kernel_rfl) (by kernel_rfl) (by kernel_rfl) (by kernel_rfl)) ?_
  intro W base args ds gs before hval0 hW hcnd hsz0 _
  have hval : ∀ (j : Nat) t v, Try.f9.params[j]? = some t → args[j]? = some v → Value.okWide Try.prog W .any base t v := hval0
  have hW' := hW
  obtain ⟨p, q, hA0, hV, rfl, hfz, hnd⟩ := hW
  have hA : DataW.TrodAll enc Try.prog W 0 (fun _ => true) true Try.f9.params.toList args.toList ds p := hA0
  rw [Try.params9] at hA hval
  obtain ⟨v0, v1, d0, d1, p0, p1, rfl, rfl, rfl, h0, h1⟩ := trodAll_two hA
  obtain ⟨rfl, rfl⟩ := trodVars_none hV
  obtain ⟨Ad, nd, cd, ly, ms, uc, ks, rfl, hK, hnd⟩ := open_spec (hval 0 39 v0 rfl rfl) h0
  have hsz : (DataW.weightsEach Try.prog [39, 29] [d0, d1]).all (· ≤ reachBytes) = true := hsz0
  have hw : ∀ n ∈ d1.weights Try.prog 29, n ≤ reachBytes := fun n hn => by
    have := List.all_eq_true.1 hsz n (DataW.weights_mem_each (j := 1) rfl rfl n hn)
    simpa using this
  obtain ⟨A, len, cap, l, rfl, hl, hn, ht⟩ := open_toks (hval 1 29 v1 rfl rfl) h1 hw
  refine (lawVis_any Ad nd cd ly ms uc ks A len cap l W hK hl hnd hn ht).mono fun e W' ⟨he, hb⟩ => ?_
  subst he
  exact ⟨_, rfl, law_post (by kernel_rfl) (by kernel_rfl) rfl (by kernel_rfl) hW' rfl rfl rfl hb⟩

theorem lawVis_holds : Rows.LexerVisibleMatchesReferenceSaid :=
  OpenClaim.holds_of_wide 9 Try.f9 rfl rfl rfl rfl rfl rfl rfl ⟨rfl, rfl, rfl, rfl, rfl⟩ rfl rfl rfl rfl rfl (by kernel_rfl) Try.func9 (by kernel_rfl)
    (of_decide_eq_true (by kernel_rfl)) (by unfold Func.isWrapper; first | (rw [if_pos (by decide +kernel)]; kernel_rfl) | (rw [if_neg (by decide +kernel)]; exact ⟨rfl, rfl⟩))
    (fun os started H enc _ => lawVis_lifted os started H enc)
#print axioms lawVis_holds
end Go.Proofs.Ytdpdggmafmebeaa
