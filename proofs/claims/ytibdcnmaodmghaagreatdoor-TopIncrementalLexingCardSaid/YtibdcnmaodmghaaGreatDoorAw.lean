/- The guard of the law is awake; Compile is known. -/
import Derived.Test.YtibdcnmaodmghaaGreatDoorLexT
import Derived.Test.YtibdcnmaodmghaaGreatDoorT227a
import Derived.Test.YtibdcnmaodmghaaGreatDoorT227b
import Derived.Test.YtibdcnmaodmghaaGreatDoorT227c
import Derived.Test.YtibdcnmaodmghaaGreatDoorT236a
import Derived.Test.YtibdcnmaodmghaaGreatDoorT236b
import Derived.Test.YtibdcnmaodmghaaGreatDoorT236c
import Derived.Test.YtibdcnmaodmghaaGreatDoorT231a
import Derived.Test.YtibdcnmaodmghaaGreatDoorT231b
import Derived.Test.YtibdcnmaodmghaaGreatDoorT231c
import Derived.Test.YtibdcnmaodmghaaGreatDoorT161a
import Derived.Test.YtibdcnmaodmghaaGreatDoorT161b
import Derived.Test.YtibdcnmaodmghaaGreatDoorT161c
import Derived.Test.YtibdcnmaodmghaaGreatDoorT162a
import Derived.Test.YtibdcnmaodmghaaGreatDoorT162b
import Derived.Test.YtibdcnmaodmghaaGreatDoorT162c
import Derived.Test.YtibdcnmaodmghaaGreatDoorT166a
import Derived.Test.YtibdcnmaodmghaaGreatDoorT7a
import Derived.Test.YtibdcnmaodmghaaGreatDoorT31a
import Derived.Test.YtibdcnmaodmghaaGreatDoorT31b
section
namespace Go.Proofs
open Go.RowKit Go.Ev Go.Proofs.YtibdcnmaodmghaaGreatDoor
theorem all1 {E : Fns} {f : Nat} {l : List TE} (h : oks E f l = true) : ∀ t ∈ l, tabOk E f t = true := oks_at h
theorem allApp {E : Fns} {f : Nat} {l m : List TE} (h1 : oks E f l = true) (h2 : ∀ t ∈ m, tabOk E f t = true) : ∀ t ∈ l ++ m, tabOk E f t = true := fun t ht => by
  rcases List.mem_append.1 ht with h | h
  · exact oks_at h1 t h
  · exact h2 t h
theorem Tryz.ext1_sound : ExtS Tryz.prog Tryz.ext1 :=
  Tryz.extT_sound (Tryz.extT_sound (Tryz.extT_sound Tryz.ext0_sound Tryz.ext0_sound (allApp Tryz.l227_0_ok (allApp Tryz.l227_1_ok (all1 Tryz.l227_2_ok)))) Tryz.ext0_sound (allApp Tryz.l236_0_ok (allApp Tryz.l236_1_ok (all1 Tryz.l236_2_ok)))) Tryz.ext0_sound (allApp Tryz.l231_0_ok (allApp Tryz.l231_1_ok (all1 Tryz.l231_2_ok)))
theorem Tryz.ext2_sound : ExtS Tryz.prog Tryz.ext2 :=
  Tryz.extT_sound (Tryz.extT_sound (Tryz.extT_sound Tryz.ext1_sound Tryz.ext1_sound (allApp Tryz.l161_0_ok (allApp Tryz.l161_1_ok (all1 Tryz.l161_2_ok)))) Tryz.ext1_sound (allApp Tryz.l162_0_ok (allApp Tryz.l162_1_ok (all1 Tryz.l162_2_ok)))) Tryz.ext1_sound (all1 Tryz.l166_0_ok)
theorem Tryz.ext3_sound : ExtS Tryz.prog Tryz.ext3 :=
  Tryz.extT_sound (Tryz.extT_sound Tryz.ext2_sound Tryz.ext2_sound (all1 Tryz.l7_0_ok)) Tryz.ext2_sound (allApp Tryz.l31_0_ok (all1 Tryz.l31_1_ok))
/-- One call alone. -/
noncomputable def oneE (f : Nat) (t : TE) : Fns := fun g args B n => open Classical in if g = f ∧ args = t.args ∧ B = addB .nil t.pre ∧ n = t.n then .ok t.v (addB .nil t.post) t.n' else .bad
theorem oneE_sound {P : Program} {f : Nat} {t : TE} (h : FnS P f t.args (addB .nil t.pre) t.n t.v (addB .nil t.post) t.n') : Sound P (oneE f t) := by
  intro g args B n v B' n' e
  unfold oneE at e
  split at e
  · rename_i hc
    obtain ⟨rfl, rfl, rfl, rfl⟩ := hc
    cases e
    exact h
  · cases e
theorem oneE_ok {f : Nat} {t : TE} (h1 : inB (addB .nil t.post) t.post = true) (h2 : (t.post.all fun p => Nat.ble t.n p.1 || hasId t.pre p.1) = true) : tabOk (oneE f t) f t = true := by
  unfold tabOk
  have e : oneE f t f t.args (addB .nil t.pre) t.n = .ok t.v (addB .nil t.post) t.n' := by
    unfold oneE
    exact if_pos ⟨rfl, rfl, rfl, rfl⟩
  rw [e]
  simp [h1, h2]
noncomputable def Tryz.ext4 : Ext := fun g => bif Nat.beq g 11 then some (tabRun Tryz.lexTE) else Tryz.ext3 g
theorem Tryz.ext4_sound : ExtS Tryz.prog Tryz.ext4 := by
  intro g k hg args B n v B' n' h
  unfold Tryz.ext4 at hg
  cases hb : Nat.beq g 11 with
  | false => rw [hb] at hg; exact Tryz.ext3_sound g k hg args B n v B' n' h
  | true =>
    rw [hb] at hg
    cases (show some (tabRun Tryz.lexTE) = some k from hg)
    cases Nat.eq_of_beq_eq_true hb
    exact tab_sound (oneE_sound Tryz.lex_at) (oneE_ok (by kernel_rfl) (by kernel_rfl)) h
/-- What is known when the law begins: the names of the layout terms. -/
def Tryz.b0 : HL := [(1, .row 3 true 0 (aL [.s [110,101,119,108,105,110,101], .s [105,110,100,101,110,116], .s [100,101,100,101,110,116]]))]
noncomputable def Tryz.E4 : Fns := Tryz.evl Tryz.ext4
theorem Tryz.E4_sound : Sound Tryz.prog Tryz.E4 := Tryz.evl_sound Tryz.ext4_sound
noncomputable def awB : FR → Bool
  | .ok v B _ => and (decide (v = .b true)) (inB B Tryz.b0)
  | .bad => false
theorem Tryz.awake_run : awB (Tryz.E4 6 .nil (addB .nil Tryz.b0) 10) = true := by kernel_rfl
noncomputable def cmpB (l : HL) : FR → Bool
  | .ok v B _ => and (decide (v = .tu (aL [Tryz.dav, .i .i64 (.ofNat 0)]))) (inB B l)
  | .bad => false
noncomputable def thenF (x : FR) (k : AV → Tr AO → Nat → FR) : FR := match x with
  | .ok v B n => k v B n
  | .bad => .bad
theorem Tryz.compile_run : cmpB (Tryz.b0 ++ Tryz.dhl) (thenF (Tryz.E4 8 .nil (addB .nil Tryz.b0) 10) fun v B n => Tryz.E4 7 (.cons v .nil) B n) = true := by kernel_rfl
end Go.Proofs
end
