/- The solver's state while its rows are built. -/
import Derived.Test.YtkeiakmfnammbaaKnMakeB
namespace Go.Proofs.Ytkeiakmfnammbaa
open Go.RowKit

theorem parts_sm {w0 w1 w2 w3 : World} {sb va sa oa ua q N ce : Nat} {E : Option Addr} {es : List Ed} {F : Nat → Prop} (hP : Parts w1 w2 sb va sa oa ua N es.length E ce) (hE : HG w1 w0.heap.size E es.length es) (h01 : w0.heap.size ≤ w1.heap.size)
    (hq : QB w3 w2.heap.size q F [] 0 0) (hb : Below w2.heap.size w2 w3) :
    SM (w3.setCell ⟨sb, 6, none⟩ (.pointer (some ⟨q, 0, none⟩))) ⟨w0.heap.size, sb, va, sa, oa, ua, q, E, ce, N, es, List.replicate N noUr⟩ F (List.replicate N ⟨0, 0⟩) (List.replicate N false) (List.replicate es.length 0) [] 0 := by
  have hs12 := hP.below.size
  have hs23 := hb.size
  have hn : ∀ {g : Nat}, g < w2.heap.size → ¬ F g := fun h hf => by have := (hq.2 _ hf).1; omega
  have e1 : va ≠ sb := Blk.ne_ hP.kV hP.kS (by decide)
  have e2 : sa ≠ sb := Blk.ne_ hP.kB hP.kS (by decide)
  have e3 : oa ≠ sb := Blk.ne_ hP.kO hP.kS (by decide)
  have e4 : ua ≠ sb := Blk.ne_ hP.kU hP.kS (by decide)
  have hlo := hP.lo
  refine ⟨⟨?_, hn hP.kS.lt⟩, ⟨(hP.kV.below hb hP.kV.lt).far e1 _, hn hP.kV.lt⟩, ⟨(hP.kB.below hb hP.kB.lt).far e2 _, hn hP.kB.lt⟩, ⟨(hP.kO.below hb hP.kO.lt).far e3 _, hn hP.kO.lt⟩, ⟨(hP.kU.below hb hP.kU.lt).far e4 _, hn hP.kU.lt⟩, by simp, by simp, by simp, by simp, fun u hu => ?_, ?_, ?_, ?_, ?_⟩
  · have := (hP.kS.below hb hP.kS.lt).set_ 6 (.pointer (some ⟨q, 0, none⟩))
    simpa [SA.cells] using this
  · obtain ⟨_, rfl⟩ := List.mem_replicate.1 hu
    intro j k hk
    simp [noUr] at hk
  · have hq' : QB w3 w0.heap.size q F [] 0 0 := ⟨hq.1, fun k hk => ⟨by have := (hq.2 k hk).1; omega, (hq.2 k hk).2⟩⟩
    exact hq'.farCell (hn hP.kS.lt) _
  · exact ((hE.below (hP.below.mono h01)).below (hb.mono (by omega))).farCell (by show w0.heap.size ≤ sb; omega) _
  · show w0.heap.size ≤ _
    simp only [World.setCell]
    simp
    omega
  · exact ⟨by show w0.heap.size ≤ sb; omega, by show w0.heap.size ≤ va; omega, by show w0.heap.size ≤ sa; omega, by show w0.heap.size ≤ oa; omega, by show w0.heap.size ≤ ua; omega⟩
theorem parts_below {w0 w1 w2 w3 : World} {sb va sa oa ua N M ce : Nat} {E : Option Addr} (hP : Parts w1 w2 sb va sa oa ua N M E ce) (h1 : Below w0.heap.size w0 w1) (hb : Below w2.heap.size w2 w3) (v : Value) : Below w0.heap.size w0 (w3.setCell ⟨sb, 6, none⟩ v) := by
  have := h1.size
  have := hP.below.size
  exact ((h1.trans (hP.below.mono (by omega))).trans (hb.mono (by omega))).setCell (by have := hP.lo.1; show w0.heap.size ≤ sb; omega) _
/-- A block of its own beside the solver's. -/
theorem PB.stp {a : SA} {w w' : World} {F G : Nat → Prop} {g : Nat} {t : TypeId} {cs : Array Value} (h : PB w F g t cs) (hs : Stp a w F w' G) (h1 : g ≠ a.va) (h2 : g ≠ a.sa) (h3 : g ≠ a.oa) : PB w' G g t cs :=
  ⟨h.1.touch hs.touch (fun hg => by
    rcases hg with e | e | e | e
    · exact h.2 e
    · exact h1 e
    · exact h2 e
    · exact h3 e), fun hg => by rcases hs.new g hg with e | e; exact h.2 e; have := h.1.lt; omega⟩

/-- The values and the edges as the first loop leaves them. -/
def vini (N i : Nat) : List Vl := List.replicate i vtop ++ List.replicate (N - i) ⟨0, 0⟩
def eini (N i : Nat) : List Int := List.replicate i (-1) ++ List.replicate (N - i) 0
theorem vini_len {N i : Nat} (h : i ≤ N) : (vini N i).length = N := by simp [vini]; omega
theorem eini_len {N i : Nat} (h : i ≤ N) : (eini N i).length = N := by simp [eini]; omega
theorem ini_set {α : Type} {x y : α} {N i : Nat} (h : i < N) : (List.replicate i x ++ List.replicate (N - i) y).set i x = List.replicate (i + 1) x ++ List.replicate (N - (i + 1)) y := by
  rw [List.set_append_right _ _ (by simp)]
  rw [show N - i = (N - (i + 1)) + 1 by omega, List.replicate_succ (n := N - (i + 1)), List.length_replicate, Nat.sub_self, List.set_cons_zero, List.replicate_succ' (n := i)]
  simp
theorem ini_end {α : Type} (x y : α) (N : Nat) : List.replicate N x ++ List.replicate (N - N) y = List.replicate N x := by simp
theorem SM.cs {w : World} {a : SA} {F : Nat → Prop} {V : List Vl} {S : List Bool} {O : List Int} {L : List Ent} {nx N M : Nat} (h : SM w a F V S O L nx) (hN : a.N = N) (hM : a.es.length = M) :
    w.cell? ⟨a.sb, 2, none⟩ = some (.slice (some ⟨a.va, 0, none⟩) N N) ∧ w.cell? ⟨a.sb, 3, none⟩ = some (.slice (some ⟨a.sa, 0, none⟩) N N) ∧ w.cell? ⟨a.sb, 4, none⟩ = some (.slice (some ⟨a.oa, 0, none⟩) M M) ∧ w.cell? ⟨a.sb, 5, none⟩ = some (.slice (some ⟨a.ua, 0, none⟩) N N) ∧ w.cell? ⟨a.sb, 6, none⟩ = some (.pointer (some ⟨a.q, 0, none⟩)) := by
  subst hN hM
  exact ⟨h.kS.1.cell 2, h.kS.1.cell 3, h.kS.1.cell 4, h.kS.1.cell 5, h.kS.1.cell 6⟩
theorem SM.nes {w : World} {a : SA} {F : Nat → Prop} {V : List Vl} {S : List Bool} {O : List Int} {L : List Ent} {nx : Nat} (h : SM w a F V S O L nx) :
    a.va ≠ a.sb ∧ a.sa ≠ a.sb ∧ a.oa ≠ a.sb ∧ a.ua ≠ a.sb ∧ a.va ≠ a.sa ∧ a.va ≠ a.oa ∧ a.va ≠ a.ua ∧ a.sa ≠ a.oa ∧ a.sa ≠ a.ua ∧ a.oa ≠ a.ua :=
  ⟨Blk.ne_ h.kV.1 h.kS.1 (by decide), Blk.ne_ h.kB.1 h.kS.1 (by decide), Blk.ne_ h.kO.1 h.kS.1 (by decide), Blk.ne_ h.kU.1 h.kS.1 (by decide), Blk.ne_ h.kV.1 h.kB.1 (by decide), Blk.ne_ h.kV.1 h.kO.1 (by decide), Blk.ne_ h.kV.1 h.kU.1 (by decide), Blk.ne_ h.kB.1 h.kO.1 (by decide), Blk.ne_ h.kB.1 h.kU.1 (by decide), Blk.ne_ h.kO.1 h.kU.1 (by decide)⟩
theorem PB.set_ints {w : World} {F : Nat → Prop} {g : Nat} {t : TypeId} {l : List Int} (h : PB w F g t (ints l).toArray) (k : Nat) (x : Int) : PB (w.setCell ⟨g, k, none⟩ (.int .i64 x)) F g t (ints (l.set k x)).toArray := by
  refine ⟨?_, h.2⟩
  have := h.1.set_ k (.int .i64 x)
  have e : (ints (l.set k x)).toArray = (ints l).toArray.setIfInBounds k (.int .i64 x) := by simp [ints, List.map_set]
  rw [e]
  exact this
/-- A store into a block that is not the solver's. -/
theorem SM.farCell {w : World} {a : SA} {F : Nat → Prop} {V : List Vl} {S : List Bool} {O : List Int} {L : List Ent} {nx g k : Nat} (h : SM w a F V S O L nx) (hF : ¬ F g) (hb : a.base ≤ g) (h1 : a.sb ≠ g) (h2 : a.va ≠ g) (h3 : a.sa ≠ g) (h4 : a.oa ≠ g) (h5 : a.ua ≠ g) (hr : ∀ u ∈ a.us, ∀ b, u.A = some b → b.block ≠ g) (x : Value) : SM (w.setCell ⟨g, k, none⟩ x) a F V S O L nx := by
  refine ⟨h.kS.far h1 _, h.kV.far h2 _, h.kB.far h3 _, h.kO.far h4 _, h.kU.far h5 _, h.lV, h.lS, h.lO, h.lU, fun u hu j k' hk => ?_, h.hQ.farCell hF _, h.hE.farCell hb _, by simpa [World.setCell] using h.bs, h.lo⟩
  obtain ⟨b, off, e1, e2, e3, e4, e5, e6⟩ := h.rU u hu j k' hk
  refine ⟨b, off, e1, e2, e3, e4, e5, (World.cell?_setCell_far _ _ _ _ ?_).trans e6⟩
  have := hr u hu _ e1
  exact fun e => this e.symm
end Go.Proofs.Ytkeiakmfnammbaa
