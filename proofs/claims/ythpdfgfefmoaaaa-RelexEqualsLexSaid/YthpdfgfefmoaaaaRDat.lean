/- Tokens and automata by their data. -/
import Derived.Test.YthpdfgfefmoaaaaRDfa
namespace Go.Proofs.Ythpdfgfefmoaaaa
open Go.RowKit

def RetDfa (d : Dfa) (w : World) (e : Ending) (w' : World) : Prop :=
  ∃ v : DfaV, e = .returned (.agg #[.slice v.Ac v.nc v.cc, .slice v.An v.nn v.cn, .slice v.Aa v.na v.ca]) ∧ DfaAt w' w'.heap.size v d ∧ Below w.heap.size w w'

def okB (d : Dfa) (k : Nat) : Bool := d.cls.length == 256 && (d.cls.all (fun x => decide (0 ≤ x ∧ x < k)) && (d.acc.length == d.next.length && (decide (0 < d.next.length) &&
  (d.next.all (fun r => r.length == k && r.all (fun x => decide (-1 ≤ x ∧ x < d.next.length))) && d.acc.all (fun x => decide (-1 ≤ x))))))
theorem okB_ok {d : Dfa} {k : Nat} (h : okB d k = true) : d.Ok k := by
  simp only [okB, Bool.and_eq_true, beq_iff_eq, List.all_eq_true, decide_eq_true_eq] at h
  obtain ⟨h1, h2, h3, h4, h5, h6⟩ := h
  refine ⟨h1, fun i x hx => h2 x (List.mem_of_getElem? hx), h3, h4, fun i r hr => ?_, fun i x hx => h6 x (List.mem_of_getElem? hx)⟩
  obtain ⟨g1, g2⟩ := h5 r (List.mem_of_getElem? hr)
  exact ⟨g1, fun j x hx => g2 x (List.mem_of_getElem? hx)⟩
def Tok.dat (t : Tok) : Int × Int × List UInt8 × Int := (t.kind, t.pos, t.text.data.toList, t.look)
theorem Tok.dat_inj {a b : Tok} (h : a.dat = b.dat) : a = b := by
  obtain ⟨k, p, ⟨⟨t⟩⟩, l⟩ := a
  obtain ⟨k', p', ⟨⟨t'⟩⟩, l'⟩ := b
  simp only [Tok.dat, Prod.mk.injEq] at h
  obtain ⟨rfl, rfl, h, rfl⟩ := h
  have : t = t' := h
  subst this
  rfl
theorem toks_of_dat : ∀ {l m : List Tok}, l.map Tok.dat = m.map Tok.dat → l = m
  | [], [], _ => rfl
  | [], _ :: _, h => by simp at h
  | _ :: _, [], h => by simp at h
  | a :: l, b :: m, h => by
    simp only [List.map_cons, List.cons.injEq] at h
    rw [Tok.dat_inj h.1, toks_of_dat h.2]

end Go.Proofs.Ythpdfgfefmoaaaa
