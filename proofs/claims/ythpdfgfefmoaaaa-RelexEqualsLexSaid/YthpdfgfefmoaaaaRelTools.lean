/- Parts of a slice of tokens; appends of them; the scanner; results of an update. -/
import Derived.Test.YthpdfgfefmoaaaaRelScan
import Derived.Test.YthpdfgfefmoaaaaRelSmall
import Derived.Test.YthpdfgfefmoaaaaAppAny
namespace Go.Proofs.Ythpdfgfefmoaaaa
open Go.RowKit

theorem results_upd {fn : Func} {p q r : Tmp} (h : fn.results = #[.tmp q, .cell p 35, .tmp r]) {tmps : Array Value} {b : Nat} (hp : tmps.getD p undef = .pointer (some ⟨b, 0, none⟩)) {w : World} {v x : Value}
    {i j k : Int} (h0 : w.cell? ⟨b, 0, none⟩ = some (.int .i64 i)) (h1 : w.cell? ⟨b, 1, none⟩ = some (.int .i64 j)) (h2 : w.cell? ⟨b, 2, none⟩ = some (.int .i64 k)) (hv : tmps.getD q undef = v) (hx : tmps.getD r undef = x) :
    (results fn tmps).run Try.prog w = .ok (.tuple #[v, .agg #[.int .i64 i, .int .i64 j, .int .i64 k], x]) w := by
  have hp' : tmps[p]?.getD undef = .pointer (some ⟨b, 0, none⟩) := by rw [← hp]; simp
  have hv' : tmps[q]?.getD undef = v := by rw [← hv]; simp
  have hx' : tmps[r]?.getD undef = x := by rw [← hx]; simp
  simp only [results, h]
  simp [go_sem, asAddr, hp', hv', hx', h0, h1, h2]

theorem Blk.set3 {w : World} {g : Nat} {t : TypeId} {a0 a1 a2 : Value} (h : Blk w g t #[a0, a1, a2]) (x0 x1 x2 : Value) :
    Blk (((w.setCell ⟨g, 0, none⟩ x0).setCell ⟨g, 1, none⟩ x1).setCell ⟨g, 2, none⟩ x2) g t #[x0, x1, x2] := by
  have := ((h.set_ 0 x0).set_ 1 x1).set_ 2 x2
  simpa using this
theorem Reads.front {w : World} {B n f : Nat} {A : Option Addr} {l : List Tok} (h : Reads w B 4 A n (toks l)) (hf : f ≤ n) : Reads w B 4 A f (toks (l.take f)) := by
  have hl := h.len_toks
  refine ⟨by rw [toks_length, List.length_take]; omega, fun h0 => ?_⟩
  obtain ⟨b, off, e, hb, hc⟩ := h.2 (by omega)
  refine ⟨b, off, e, hb, fun j u hu => hc j u ?_⟩
  have e1 : toks l = toks (l.take f) ++ toks (l.drop f) := by rw [← toks_append, List.take_append_drop]
  rw [e1, List.getElem?_append_left (List.getElem?_eq_some_iff.1 hu).1]
  exact hu
theorem Reads.back {w : World} {B n c k : Nat} {A : Option Addr} {l : List Tok} (h : Reads w B 4 A n (toks l)) (hk : k ≤ n) (hc : n ≤ c) : Reads w B 4 (if c = k then A else A.map (·.add (k * 4))) (n - k) (toks (l.drop k)) := by
  have hl := h.len_toks
  refine ⟨by rw [toks_length, List.length_drop]; omega, fun h0 => ?_⟩
  obtain ⟨b, off, e, hb, hcl⟩ := h.2 (by omega)
  rw [if_neg (by omega), e]
  refine ⟨b, off + k * 4, by simp [Addr.add], hb, fun j u hu => ?_⟩
  have e1 : toks l = toks (l.take k) ++ toks (l.drop k) := by rw [← toks_append, List.take_append_drop]
  have e2 : (toks (l.take k)).length = k * 4 := by rw [toks_length, List.length_take]; omega
  rw [Nat.add_assoc]
  refine hcl (k * 4 + j) u ?_
  rw [e1, List.getElem?_append_right (by omega), e2, Nat.add_sub_cancel_left]
  exact hu
theorem toks_one {l : List Tok} {u : Value} (h : u ∈ toks l) : u.oneCell' = true := by
  simp only [toks, List.mem_flatMap] at h
  obtain ⟨t, _, h⟩ := h
  simp [Tok.cells] at h
  rcases h with rfl | rfl | rfl | rfl <;> rfl

theorem DfaAt.grown {w w' : World} {B : Nat} {v : DfaV} {d : Dfa} {row : Option Nat} (h : DfaAt w B v d) (hg : w.grownBy w' row) (hB : B ≤ w.heap.size) (hr : ∀ g, row = some g → B ≤ g) : DfaAt w' B v d :=
  h.keep fun p hp => World.cell?_of_block (hg.block p.block (by omega) (fun e => by have := hr _ e.symm; omega))
theorem push_toks {l : List Tok} {m : Nat} {t : Tok} (h : l[m]? = some t) : toks (l.take (m + 1)) = toks (l.take m) ++ t.cells := by
  rw [take_snoc_tok l m t h, toks_append]; simp [toks]
theorem own_blk_ne {w : World} {g : Nat} {t : TypeId} {cs : Array Value} {base : Nat} {e : TypeId} {size n : Nat} {v : Value} {xs : List Value} (h : w.ownsRow base e size v n xs) (hg : Blk w g t cs) (hne : e ≠ t) : v.ownBlock ≠ some g := by
  rcases h.2 with ⟨rfl, _⟩ | ⟨g', cap, cur, rfl, _, hh, _⟩
  · simp [Value.ownBlock]
  · intro he
    have : g' = g := by simpa [Value.ownBlock] using he
    subst this
    exact Blk.ne_ (t := e) hh hg hne rfl
theorem own_set {w : World} {base : Nat} {e : TypeId} {size n : Nat} {v : Value} {xs : List Value} (h : w.ownsRow base e size v n xs) {p : Addr} (hp : p.block < base) (u : Value) : (w.setCell p u).ownsRow base e size v n xs :=
  h.kept (row := some p.block) ⟨rfl, rfl, rfl, by simp, fun j hj hne => Below.heap_setCell _ _ _ _ (fun e => hne (by simp [e]))⟩ (by
    cases hv : v.ownBlock with
    | none => simp
    | some g =>
      have := (h.lt g hv).1
      simp
      omega)
theorem own_drew {w : World} {base : Nat} {e : TypeId} {size n : Nat} {v : Value} {xs : List Value} (h : w.ownsRow base e size v n xs) : w.drew.ownsRow base e size v n xs := h
theorem blk_drew {w : World} {g : Nat} {t : TypeId} {cs : Array Value} (h : Blk w g t cs) : Blk w.drew g t cs := h
theorem own_drewN {w : World} {base : Nat} {e : TypeId} {size n : Nat} {v : Value} {xs : List Value} (h : w.ownsRow base e size v n xs) (k : Nat) : (w.drewN k).ownsRow base e size v n xs := h
section
variable {P : Program} {w : World}
theorem wpList_append_any {ops : Array Oper} {rest : List Oper} {o : Oper} {a : Act} {Q : Exit → Act → World → Prop} (hgd : o.guard = none) (s x : Operand) (t : TypeId)
    (ho : o.op = .call { callee := .builtin .append, args := #[s, x], argTypes := #[t, t] })
    (base : Nat) (e : TypeId) (i : TypeInfo) (z : Value) (size bytes : Nat) (ht : P.underlying t = some (.slice e)) (hi : P.info? e = some i) (hz : i.zero = some z)
    (hsize : i.size = size) (hby : i.bytes = bytes) (hzs : z.cells.size = size) (hsz : 0 < size)
    (v : Value) (n : Nat) (xs : List Value) (hs : a.eval s = v) (hown : w.ownsRow base e size v n xs)
    (B : Nat) (A : Option Addr) (m c : Nat) (news : List Value) (hx : a.eval x = .slice A m c) (hr : Reads w B size A m news) (h1 : ∀ u ∈ news, u.oneCell' = true)
    (h63 : n + m ≤ maxLen) (hbytes : (n + m) * bytes ≤ 140737488355328) (hbase : base ≤ w.heap.size)
    (h : ∀ v' w', w'.ownsRow base e size v' (n + m) (xs ++ news) → w.grownBy w' v.ownBlock → (v'.ownBlock = v.ownBlock ∨ v'.ownBlock = some w.heap.size) → wpList P ops Q rest (a.put o.dst v') w') : wpList P ops Q (o :: rest) a w :=
  wpList_plain hgd fun _ hK => wp_append_any w s x t ho base e i z size bytes ht hi hz hsize hby hzs hsz v n xs hs hown B A m c news hx hr h1 h63 hbytes hbase fun v' w' h2 h3 h4 => hK _ _ (h v' w' h2 h3 h4)
end

set_option maxHeartbeats 400000 in
theorem scanner_any (v : DfaV) (s : ByteArray) (w : World) :
    Calls Try.prog 23 #[.agg #[.slice v.Ac v.nc v.cc, .slice v.An v.nn v.cn, .slice v.Aa v.na v.ca], .string s] w
      fun e w' => e = .returned (.func (.func 34) #[] #[.pointer (some ⟨w.heap.size + 1, 0, none⟩), .pointer (some ⟨w.heap.size, 0, none⟩)]) ∧
        Blk w' w.heap.size 25 v.cells ∧ Blk w' (w.heap.size + 1) 9 #[.string s] ∧ Below w.heap.size w w' := by
  have hmf : ∀ (fn : Fn) (first cap : Array Value) (w : World), (Instr.makeFunc fn first cap).run Try.prog w = .ok (.func fn first cap) w := fun _ _ _ _ => rfl
  go_enter Try.func23, Try.ntmps23
  go_wp2_with fail
  go_ret
  refine ⟨rfl, (Blk.new' w _ _ rfl).alloc _, Blk.new' (w.alloc _) _ _ (by simp), ((Below.refl _ _).alloc (Nat.le_refl _) _).alloc (by simp) _⟩
end Go.Proofs.Ythpdfgfefmoaaaa
