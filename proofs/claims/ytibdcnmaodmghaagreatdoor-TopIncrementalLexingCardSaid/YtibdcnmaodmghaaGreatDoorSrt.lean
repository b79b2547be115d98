/- Sorted keys and sorted slices under the evaluator. -/
import Derived.Test.YtibdcnmaodmghaaGreatDoorShelf
import Derived.Test.YtibdcnmaodmghaaGreatDoorEvF
import Derived.Shelf.SlIterI.Nil
import Derived.Shelf.SortM.Plain
import Derived.Shelf.SortM.SortNone
import Derived.Ground.GgzProg
import Derived.Ground.SlgmProg
import Derived.Test.YtibdcnmaodmghaaGreatDoorProg
import Derived.Laws.Externs
import Derived.Test.YtibdcnmaodmghaaGreatDoorEvD
import Derived.Recover
import Derived.WideLaws
import Derived.Shelf.Abstract
section
namespace Go.Proofs
open Go.RowKit Go.Maps Go.Sort Go.Shelf
theorem Tryz.sortsA (m : Nat) : AnyZI.SortsIn Tryz.prog Tryz.sortedA_ren Fence.wide m :=
  ⟨fun blk off cap ss W hH hblk hsz => callsIn_wide.2 (AnyM.slices_Sort_int Tryz.sortA blk off cap ss W hH hblk hsz),
   fun p cap W => callsIn_wide.2 (AnyM.slices_Sort_int_none Tryz.sortA p cap W)⟩
open Go.Ev in
theorem Tryz.sorted_c (q b nn : Nat) (D0 : DataW Unit) (R : Value → Option (DataW Unit × List MemPlace)) (w : World) (hq : q < w.heap.size) (hc : w.cell? ⟨q, 0, none⟩ = some (.map (some b))) (hown : w.ownsMap Tryz.prog (Tryz.keysA_ren.t 26) R b nn D0) (hsz : Maps.size D0 ≤ 1000000) :
    Calls Tryz.prog 224 #[.func (.func 275) #[] #[.pointer (some ⟨q, 0, none⟩)]] w fun e w' => ∃ (v : Value) (ss : List Int), e = .returned v ∧ ss.Perm (intKeys D0) ∧
        w'.ownsRow w.heap.size (Tryz.keysA_ren.t 26) 1 v ss.length ((ss.mergeSort (fun x y => decide (x ≤ y))).map encZ) ∧ (v = .slice none 0 0 ↔ ss = []) ∧ RowKit.Below w.heap.size w w' := by
  refine (callsIn_wide (n := 5)).1 ?_
  have hseq : SeqGives Fence.wide 2 Tryz.prog 275 #[.pointer (some ⟨q, 0, none⟩)] encZ (fun ss => ss.Perm (intKeys D0)) (Maps.size D0) w :=
    AnyZI.keys_gives (ρ := Tryz.keysA_ren) { Tryz.keysA with } Fence.wide _ trivial rfl (by omega) q b nn D0 w hq hc hown
  exact AnyZI.sorted_in Tryz.sortedA Fence.wide 5 trivial trivial trivial trivial rfl (by omega) (Tryz.sortsA _) (enters_of Tryz.func274 (by kernel_rfl) rfl) 275 #[.pointer (some ⟨q, 0, none⟩)] trivial (enters_of Tryz.func275 (by kernel_rfl) rfl) _ _ (Nat.le_trans hsz (by decide)) (by omega) _ hseq
open Go.Ev in
theorem Tryz.sorted_ext {args v : AV} {B B' : Tr AO} {n n' : Nat} (h : sortedK 275 args B n = .ok v B' n') : FnS Tryz.prog 224 args B n v B' n' :=
  sorted_fns (enters_of Tryz.func224 (by kernel_rfl) rfl) (t := Tryz.keysA_ren.t 26) (by kernel_rfl) Tryz.sorted_c h
end Go.Proofs
end

section
namespace Go.Proofs
open Go.RowKit Go.Ev
theorem Tryz.ixb_c (s : ByteArray) (c : Int) (w : World) : (callFunc 323 #[.string s, .int .u8 c]).run Tryz.prog w = .ok (.value (.int .i64 (Lib.indexByte s.data.toList c.toNat.toUInt8))) w := by
  rw [run_callFunc_extern Tryz.func323 (by kernel_rfl) (by kernel_rfl) (by kernel_rfl) (e := Extern.BytealgIndexByte.indexByte) (by kernel_rfl), Lib.run_indexByteString]
  rfl
theorem Tryz.ixb_ext {args v : AV} {B B' : Tr AO} {n n' : Nat} (h : ixbK args B n = .ok v B' n') : FnS Tryz.prog 323 args B n v B' n' := ixb_fns Tryz.ixb_c h
end Go.Proofs
end

section
namespace Go.Proofs
open Go.RowKit Go.Ev Go.Shelf
theorem put4 {a : Act} {v : Value} {k : Nat} (h : k < a.tmps.size) : (a.put (some k) v).eval (.tmp k) = v := by simp [Act.put, Act.eval, h]
theorem Tryz.harm156 : Harmless Tryz.prog 156 := by
  refine ⟨enters_of Tryz.func156 (by kernel_rfl) rfl, fun args w => ?_⟩
  refine callsD_of_wpS Tryz.func156 rfl fun c₀ cs hu => ?_
  have hrec : recoverD (c₀ :: cs) = none := by simp [recoverD, hu]
  generalize hA : (Act.mk (args ++ Array.replicate (Tryz.f156.ntmps - args.size) undef) []) = a
  have hsz : 10 ≤ a.tmps.size := by rw [← hA]; simp [Tryz.f156]; omega
  have hdf : a.defers = [] := by rw [← hA]
  refine wpS_seq (wpS_region ?_)
  show wpOpsS Tryz.prog _ _ [0, 1] a (c₀ :: cs) w
  have e1 : ∀ (a : Act) (o : Oper), o.op = .call { callee := .builtin .recover, args := #[], argTypes := #[] } → (execOp a.eval o).run Tryz.prog w = .ok .recover w := by
    intro a o ho
    simp [execOp, ho, resolve, invoke, builtin]
  unfold wpOpsS
  simp only [List.getElem?_toArray, List.getElem?_cons_zero, Region.wanted, if_true]
  rw [e1 _ _ rfl]
  simp only [hrec]
  unfold wpOpsS
  simp only [List.getElem?_toArray, List.getElem?_cons_zero, List.getElem?_cons_succ, Region.wanted, if_true]
  have e4 : (a.put (some 4) Value.nilIface).eval (.tmp 4) = .nilIface := put4 (by omega)
  have e2 : ∀ (a : Act) (o : Oper) (x : Operand), o.op = .assign x → (execOp a.eval o).run Tryz.prog w = .ok (.value (a.eval x)) w := by
    intro a o x ho
    simp [execOp, ho]
  rw [e2 _ _ (.tmp 4) rfl, e4]
  simp only [Oper.upon]
  unfold wpOpsS
  show Code.wpS _ _ _ _ _ _
  generalize hb : (a.put (some 4) Value.nilIface).put (some 3) Value.nilIface = b
  have hb3 : b.eval (.tmp 3) = .nilIface := by rw [← hb]; exact put4 (by simp [Act.put]; omega)
  have hbs : 10 ≤ b.tmps.size := by rw [← hb]; simpa [Act.put] using hsz
  have hbd : b.defers = [] := by rw [← hb]; exact hdf
  refine wpS_of_wp (wp_seq (wp_region ?_))
  show wpOps Tryz.prog _ _ [0, 1] b w
  unfold wpOps
  simp only [List.getElem?_toArray, List.getElem?_cons_zero, Region.wanted, if_true]
  refine .inl ?_
  have e3 : ∀ (o : Oper) (x : Operand), o.op = .move x → (execOp b.eval o).run Tryz.prog w = .ok (.value (b.eval x)) w := by
    intro o x ho
    simp [execOp, ho]
  unfold Oper.wp
  rw [e3 _ (.tmp 3) rfl, hb3]
  simp only [Oper.upon]
  generalize hc : b.put (some 5) Value.nilIface = c
  have hc5 : c.eval (.tmp 5) = .nilIface := by rw [← hc]; exact put4 (by omega)
  have hcs : 10 ≤ c.tmps.size := by rw [← hc]; simpa [Act.put] using hbs
  have hcd : c.defers = [] := by rw [← hc]; exact hbd
  unfold wpOps
  simp only [List.getElem?_toArray, List.getElem?_cons_zero, List.getElem?_cons_succ, Region.wanted, if_true]
  refine .inl ?_
  have hq : (Op.equal 20 .nilIface .nilIface).run Tryz.prog w = .ok true w := run_equal_nil_nil w 20 (by kernel_rfl)
  have e5 : ∀ (o : Oper), o.op = .binOp .neq 20 (.tmp 5) (.const .nilIface) 20 → (execOp c.eval o).run Tryz.prog w = .ok (.value (.bool false)) w := by
    intro o ho
    have hev : c.eval (.const Value.nilIface) = .nilIface := rfl
    simp [execOp, ho, hc5, hev, eqGuard, binOp, Op.equal]
    rw [show Op.equalIn Op.maxDepth 20 Value.nilIface Value.nilIface = Op.equal 20 .nilIface .nilIface from rfl, hq]
    rfl
  unfold Oper.wp
  rw [e5 _ rfl]
  simp only [Oper.upon]
  generalize hd : c.put (some 6) (Value.bool false) = d
  have hd6 : d.eval (.tmp 6) = .bool false := by rw [← hd]; exact put4 (by omega)
  have hdd : d.defers = [] := by rw [← hd]; exact hcd
  unfold wpOps
  refine wp_cond (t := false) hd6 (wp_skip ?_)
  exact ⟨hdd, .returning, by rw [← hu], .tuple #[], by simp [results, Tryz.f156], ⟨_, rfl⟩, rfl, rfl⟩
end Go.Proofs
end
