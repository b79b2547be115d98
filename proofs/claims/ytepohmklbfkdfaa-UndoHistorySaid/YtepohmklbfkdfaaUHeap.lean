/- What a call turns (Touch); a history in memory. -/
import Derived.Test.YtepohmklbfkdfaaUPlain
namespace Go.Proofs.Ytepohmklbfkdfaa
open Go.RowKit

/-- Of what was there, only blocks of F are turned. -/
structure Touch (F : Nat → Prop) (w w' : World) : Prop where
  os : w'.os = w.os
  tape : w'.tape = w.tape
  output : w'.output = w.output
  size : w.heap.size ≤ w'.heap.size
  block : ∀ k, k < w.heap.size → ¬ F k → w'.heap[k]? = w.heap[k]?
section
variable {F G : Nat → Prop} {w w1 w' : World}
theorem Touch.refl (F : Nat → Prop) (w : World) : Touch F w w := ⟨rfl, rfl, rfl, Nat.le_refl _, fun _ _ _ => rfl⟩
theorem Touch.trans (h : Touch F w w1) (h' : Touch G w1 w') (hG : ∀ k, G k → F k ∨ w.heap.size ≤ k) : Touch F w w' :=
  ⟨h'.os.trans h.os, h'.tape.trans h.tape, h'.output.trans h.output, Nat.le_trans h.size h'.size, fun k hk hF =>
    (h'.block k (Nat.lt_of_lt_of_le hk h.size) (fun g => by rcases hG k g with h | h; exact hF h; omega)).trans (h.block k hk hF)⟩
theorem Touch.mono (h : Touch F w w') (hG : ∀ k, F k → G k) : Touch G w w' := ⟨h.os, h.tape, h.output, h.size, fun k hk hn => h.block k hk (fun hf => hn (hG k hf))⟩
theorem Touch.of_below (hb : Below w.heap.size w w') : Touch F w w' := ⟨hb.os, hb.tape, hb.output, hb.size, fun k hk _ => hb.block k hk⟩
theorem Touch.below (h : Touch F w w1) (hb : Below w1.heap.size w1 w') : Touch F w w' := h.trans (Touch.of_below (F := F) hb) fun _ hk => .inl hk
theorem Touch.alloc (h : Touch F w w') (o : Obj) : Touch F w (w'.alloc o) := h.below ((Below.refl _ _).alloc (Nat.le_refl _) _)
theorem Touch.drewN (h : Touch F w w') (n : Nat) : Touch F w (w'.drewN n) := ⟨h.os, h.tape, h.output, h.size, h.block⟩
theorem Touch.setCell (h : Touch F w w') {p : Addr} (hp : F p.block ∨ w.heap.size ≤ p.block) (u : Value) : Touch F w (w'.setCell p u) :=
  h.trans (G := fun k => k = p.block) ⟨rfl, rfl, rfl, by simp [World.setCell], fun k _ hn => Below.heap_setCell w' p u k hn⟩ (fun k hk => by subst hk; exact hp)
theorem Touch.grown (h : Touch F w w1) {row : Option Nat} (hg : w1.grownBy w' row) (hr : ∀ k, row = some k → F k ∨ w.heap.size ≤ k) : Touch F w w' :=
  h.trans (G := fun k => row = some k) ⟨hg.os, hg.tape, hg.output, hg.size, fun k hk hn => hg.block k hk (fun e => hn e.symm)⟩ hr
theorem Touch.toBelow {B : Nat} (h : Touch F w w') (hF : ∀ k, F k → B ≤ k) (hB : B ≤ w.heap.size) : Below B w w' :=
  ⟨h.os, h.tape, h.output, h.size, fun k hk => h.block k (by omega) (fun hf => by have := hF k hf; omega)⟩
theorem Blk.touch {g : Nat} {t : TypeId} {cs : Array Value} (h : Blk w g t cs) (ht : Touch F w w') (hg : ¬ F g) : Blk w' g t cs := (ht.block g h.lt hg).trans h
theorem own_touch {base : Nat} {e : TypeId} {size n : Nat} {v : Value} {xs : List Value} (h : w.ownsRow base e size v n xs) (ht : Touch F w w') (hv : ∀ k, v.ownBlock = some k → ¬ F k) : w'.ownsRow base e size v n xs := by
  refine ⟨h.1, ?_⟩
  rcases h.2 with hn | ⟨g, cap, cur, rfl, hb, hgg, rest⟩
  · exact .inl hn
  · exact .inr ⟨g, cap, cur, rfl, hb, (ht.block g (Array.getElem?_eq_some_iff.1 hgg).1 (hv g rfl)).trans hgg, rest⟩
theorem own_lt {base : Nat} {e : TypeId} {size n k : Nat} {v : Value} {xs : List Value} (h : w.ownsRow base e size v n xs) (hv : v.ownBlock = some k) : k < w.heap.size := by
  rcases h.2 with ⟨rfl, _⟩ | ⟨g, cap, cur, rfl, hb, hgg, rest⟩
  · simp [Value.ownBlock] at hv
  · have : g = k := by simpa [Value.ownBlock] using hv
    subst this
    exact (Array.getElem?_eq_some_iff.1 hgg).1
theorem own_blk_ne {g : Nat} {t : TypeId} {cs : Array Value} {base : Nat} {e : TypeId} {size n : Nat} {v : Value} {xs : List Value} (h : w.ownsRow base e size v n xs) (hg : Blk w g t cs) (hne : e ≠ t) : v.ownBlock ≠ some g := by
  rcases h.2 with ⟨rfl, _⟩ | ⟨g', cap, cur, rfl, _, hh, _⟩
  · simp [Value.ownBlock]
  · intro he
    have : g' = g := by simpa [Value.ownBlock] using he
    subst this
    exact Blk.ne_ (t := e) hh hg hne rfl
end

/-- A history: its block; its two stacks, apart from one another; all of F. -/
def Hist (w : World) (F : Nat → Prop) (g : Nat) (h : HS) : Prop :=
  ∃ vu vr, Blk w g 54 #[.string h.t, .int .i64 h.v, vu, vr] ∧ w.ownsRow 0 31 3 vu h.U.length (eds h.U) ∧ w.ownsRow 0 31 3 vr h.R.length (eds h.R) ∧ F g ∧
    (∀ k, vu.ownBlock = some k → F k) ∧ (∀ k, vr.ownBlock = some k → F k) ∧ (∀ k, vu.ownBlock = some k → vr.ownBlock ≠ some k)
section
variable {F G : Nat → Prop} {w w1 w' : World} {g : Nat} {h : HS}
theorem Hist.mono (hh : Hist w F g h) (hF : ∀ k, F k → G k) : Hist w G g h := by
  obtain ⟨vu, vr, K, hu, hr, hg, fu, fr, hx⟩ := hh
  exact ⟨vu, vr, K, hu, hr, hF _ hg, fun k hk => hF k (fu k hk), fun k hk => hF k (fr k hk), hx⟩
theorem Hist.lt (hh : Hist w F g h) : g < w.heap.size := by
  obtain ⟨vu, vr, K, _⟩ := hh
  exact K.lt
theorem Hist.precise (hh : Hist w F g h) : ∃ G : Nat → Prop, (∀ k, G k → F k ∧ k < w.heap.size) ∧ Hist w G g h := by
  obtain ⟨vu, vr, K, hu, hr, hg, fu, fr, hx⟩ := hh
  refine ⟨fun k => F k ∧ k < w.heap.size, fun _ hk => hk, vu, vr, K, hu, hr, ⟨hg, K.lt⟩, fun k hk => ⟨fu k hk, own_lt hu hk⟩, fun k hk => ⟨fr k hk, own_lt hr hk⟩, hx⟩
theorem Hist.touch (hh : Hist w F g h) (ht : Touch G w w') (hd : ∀ k, F k → ¬ G k) : Hist w' F g h := by
  obtain ⟨vu, vr, K, hu, hr, hg, fu, fr, hx⟩ := hh
  exact ⟨vu, vr, K.touch ht (hd _ hg), own_touch hu ht (fun k hk => hd k (fu k hk)), own_touch hr ht (fun k hk => hd k (fr k hk)), hg, fu, fr, hx⟩
theorem Hist.below (hh : Hist w F g h) (hb : Below w.heap.size w w') : Hist w' F g h := hh.touch (Touch.of_below (F := fun _ => False) hb) (fun _ _ h => h)
theorem Hist.drewN (hh : Hist w F g h) (n : Nat) : Hist (w.drewN n) F g h := hh
theorem Hist.alloc (hh : Hist w F g h) (o : Obj) : Hist (w.alloc o) F g h := hh.below ((Below.refl _ _).alloc (Nat.le_refl _) _)
theorem Hist.text (hh : Hist w F g h) : w.cell? ⟨g, 0, none⟩ = some (.string h.t) := by
  obtain ⟨vu, vr, K, _⟩ := hh
  exact K.cell 0
theorem Hist.ver (hh : Hist w F g h) : w.cell? ⟨g, 1, none⟩ = some (.int .i64 h.v) := by
  obtain ⟨vu, vr, K, _⟩ := hh
  exact K.cell 1
end
/-- What a call on a history leaves. -/
def HPost (w : World) (F : Nat → Prop) (g : Nat) (h : HS) (w' : World) : Prop := ∃ G : Nat → Prop, Hist w' G g h ∧ Touch F w w' ∧ ∀ k, G k → F k ∨ w.heap.size ≤ k
/-- .. where F is all from B on. -/
theorem HPost.base {w w' : World} {B g : Nat} {h : HS} (hp : HPost w (fun k => B ≤ k) g h w') (hB : B ≤ w.heap.size) : Hist w' (fun k => B ≤ k) g h ∧ Below B w w' := by
  obtain ⟨G, h1, h2, h3⟩ := hp
  exact ⟨h1.mono (fun k hk => by rcases h3 k hk with h | h; exact h; omega), h2.toBelow (fun _ h => h) hB⟩
end Go.Proofs.Ytepohmklbfkdfaa
