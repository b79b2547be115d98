/- Tokens and automata as data, and how they lie in memory. -/
import Derived.Test.YthpdfgfefmoaaaaBase
namespace Go.Proofs.Ythpdfgfefmoaaaa
open Go.RowKit

structure Tok where
  kind : Int
  pos : Int
  text : ByteArray
  look : Int

def Tok.cells (t : Tok) : List Value := [.int .i64 t.kind, .int .i64 t.pos, .string t.text, .int .i64 t.look]
def toks (l : List Tok) : List Value := l.flatMap Tok.cells
def Tok.val (t : Tok) : Value := .agg #[.int .i64 t.kind, .int .i64 t.pos, .string t.text, .int .i64 t.look]
def Tok.eqb (a b : Tok) : Bool := a.kind == b.kind && (a.pos == b.pos && (a.text.toList == b.text.toList && a.look == b.look))

theorem toks_length (l : List Tok) : (toks l).length = l.length * 4 := by
  induction l with
  | nil => rfl
  | cons t l ih => simp only [toks, List.flatMap_cons, List.length_append] at *; rw [ih]; simp [Tok.cells]; omega
theorem toks_append (l m : List Tok) : toks (l ++ m) = toks l ++ toks m := by simp [toks]
theorem toks_at : ∀ (l : List Tok) (k : Nat) (t : Tok) (j : Nat), l[k]? = some t → j < 4 → (toks l)[k * 4 + j]? = t.cells[j]?
  | [], _, _, _, h, _ => by simp at h
  | x :: l, 0, t, j, h, hj => by
    simp at h
    subst h
    simp only [toks, List.flatMap_cons]
    rw [List.getElem?_append_left (by simp [Tok.cells]; omega)]
    simp
  | x :: l, k + 1, t, j, h, hj => by
    simp at h
    have := toks_at l k t j h hj
    simp only [toks, List.flatMap_cons] at *
    rw [List.getElem?_append_right (by simp [Tok.cells]; omega)]
    rw [← this]
    congr 1
    simp [Tok.cells]; omega

section
variable {w : World} {B n : Nat} {A : Option Addr} {l : List Tok}
theorem Reads.len_toks (h : Reads w B 4 A n (toks l)) : l.length = n := by have := h.1; rw [toks_length] at this; omega
theorem Reads.tok_at (h : Reads w B 4 A n (toks l)) {k : Nat} (hk : k < n) :
    ∃ b off t, A = some ⟨b, off, none⟩ ∧ b < B ∧ l[k]? = some t ∧ w.cell? ⟨b, off + k * 4, none⟩ = some (.int .i64 t.kind) ∧ w.cell? ⟨b, off + k * 4 + 1, none⟩ = some (.int .i64 t.pos) ∧
      w.cell? ⟨b, off + k * 4 + 2, none⟩ = some (.string t.text) ∧ w.cell? ⟨b, off + k * 4 + 3, none⟩ = some (.int .i64 t.look) := by
  obtain ⟨b, off, e, hb, hc⟩ := h.2 (by omega)
  have hl : k < l.length := by rw [h.len_toks]; exact hk
  have ht := List.getElem?_eq_getElem hl
  refine ⟨b, off, l[k], e, hb, ht, ?_, ?_, ?_, ?_⟩
  · have := hc (k * 4 + 0) (.int .i64 l[k].kind) (by rw [toks_at l k _ 0 ht (by omega)]; rfl)
    simpa using this
  · have := hc (k * 4 + 1) (.int .i64 l[k].pos) (by rw [toks_at l k _ 1 ht (by omega)]; rfl)
    simpa [Nat.add_assoc] using this
  · have := hc (k * 4 + 2) (.string l[k].text) (by rw [toks_at l k _ 2 ht (by omega)]; rfl)
    simpa [Nat.add_assoc] using this
  · have := hc (k * 4 + 3) (.int .i64 l[k].look) (by rw [toks_at l k _ 3 ht (by omega)]; rfl)
    simpa [Nat.add_assoc] using this
end

theorem Tok.underStruct : Try.prog.underlying 47 = some (.struct (Try.prog.fieldsOf 47)) := by kernel_rfl
theorem results_tok {fn : Func} {p : Tmp} (h : fn.results = #[.cell p 47]) {tmps : Array Value} {b o : Nat} (hp : tmps.getD p undef = .pointer (some ⟨b, o, none⟩)) {w : World} {k a l : Int} {t : ByteArray}
    (h0 : w.cell? ⟨b, o, none⟩ = some (.int .i64 k)) (h1 : w.cell? ⟨b, o + 1, none⟩ = some (.int .i64 a)) (h2 : w.cell? ⟨b, o + 2, none⟩ = some (.string t)) (h3 : w.cell? ⟨b, o + 3, none⟩ = some (.int .i64 l)) :
    (results fn tmps).run Try.prog w = .ok (.agg #[.int .i64 k, .int .i64 a, .string t, .int .i64 l]) w := by
  rw [results_cell h tmps _ hp]
  simp [go_sem, h0, h1, h2, h3]
theorem run_neq_tok (w : World) (a b c d : Int) (s t : ByteArray) (x y : Int) :
    (binOp .neq 47 (.agg #[.int .i64 a, .int .i64 b, .string s, .int .i64 x]) (.agg #[.int .i64 c, .int .i64 d, .string t, .int .i64 y])).run Try.prog w =
      .ok (.bool (!Tok.eqb ⟨a, b, s, x⟩ ⟨c, d, t, y⟩)) w := by
  unfold Tok.eqb
  simp only [binOp]
  by_cases h1 : a = c
  · by_cases h2 : b = d
    · by_cases h3 : s.toList = t.toList
      · by_cases h4 : x = y <;> simp [go_sem, Op.equal, Op.maxDepth, h1, h2, h3, h4]
      · simp [go_sem, Op.equal, Op.maxDepth, h1, h2, h3]
    · simp [go_sem, Op.equal, Op.maxDepth, h1, h2]
  · simp [go_sem, Op.equal, Op.maxDepth, h1]
end Go.Proofs.Ythpdfgfefmoaaaa
