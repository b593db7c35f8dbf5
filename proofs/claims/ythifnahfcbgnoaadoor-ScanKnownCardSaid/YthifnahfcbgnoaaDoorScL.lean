/-
  scan: errors.Is of a *api.Fault and its own number.
-/
import Derived.Test.YthifnahfcbgnoaaDoorEngV
import Derived.Test.YthifnahfcbgnoaaDoorProg
import Derived.WalkKit
import Derived.LaidEql
import Derived.Stop.Asserts
import Derived.RowKitTokens
set_option maxRecDepth 100000
namespace Go.Proofs.YthifnahfcbgnoaaDoor.B
open Go Go.Proofs Go.RowKit Go.Extern.Stop Go.Stop Go.Extern

theorem isTypeOf27 (v : Value) (w : World) : (Extern.ReflectliteType.typeOf #[.iface 27 v]).run Tryd.prog w = .ok (.iface 90 (.agg #[.pointer (some ⟨6, 27, none⟩)])) w := by kernel_rfl
theorem isComparable27 (w : World) : ((Extern.ReflectliteType.method fun t => do Go.Extern.Rtype.noPackHeld "Comparable" t; (fun a => Value.bool a.comparable) <$> typeInfo t) #[.agg #[.pointer (some ⟨6, 27, none⟩)]]).run Tryd.prog w = .ok (.bool true) w := by kernel_rfl
theorem isMethodComparable (v : Value) (w : World) : (Go.method 265 90 v "Comparable").run Tryd.prog w = .ok (99, v) w := by kernel_rfl
theorem noIs42 (v : Value) (xT : TypeId) (w : World) : (Instr.typeAssert (.iface 42 v) xT 102 true).run Tryd.prog w = .ok (.tuple #[.nilIface, .bool false]) w := run_typeAssert_lacksB Tryd.underlying102 (by kernel_rfl) (by kernel_rfl) v xT w
theorem hasUnwrap42 (v : Value) (xT : TypeId) (w : World) : (Instr.typeAssert (.iface 42 v) xT 97 true).run Tryd.prog w = .ok (.tuple #[.iface 42 v, .bool true]) w := run_typeAssert_hasB Tryd.underlying97 (by kernel_rfl) v xT w
theorem methodUnwrap42 (v : Value) (w : World) : (Go.method 265 42 v "Unwrap").run Tryd.prog w = .ok (93, v) w := by kernel_rfl
theorem eql27 (x : Int) (w : World) : (binOp .eql 24 (.iface 27 (.int .i64 x)) (.iface 27 (.int .i64 x))).run Tryd.prog w = .ok (.bool true) w := by
  have h := YthifnahfcbgnoaaDoorEng.ifEq_run (P := Tryd.prog) (t := 24) (x := .iface 27 (.int .i64 x)) (y := .iface 27 (.int .i64 x)) (b := true) (m := #[]) trivial
    (by
      have h1 : YthifnahfcbgnoaaDoorEng.compT Tryd.prog 27 = true := by kernel_rfl
      have h2 : YthifnahfcbgnoaaDoorEng.leafK (YthifnahfcbgnoaaDoorEng.kindOf Tryd.prog 27) = true := by kernel_rfl
      have h3 : YthifnahfcbgnoaaDoorEng.kindOf Tryd.prog 27 = 2 := by kernel_rfl
      rw [h3] at h2; simp [YthifnahfcbgnoaaDoorEng.ifEq, h1, h2, h3, YthifnahfcbgnoaaDoorEng.leafEq]) ⟨_, Tryd.underlying24⟩ 9998 w
  simp [binOp, Op.equal, Op.maxDepth, h]
set_option maxHeartbeats 4000000 in
theorem is_hit (e : Nat) (x : Int) (w : World) (h1 : w.cell? ⟨e, 0, none⟩ = some (.int .i64 x)) :
    Calls Tryd.prog 16 #[.iface 42 (.pointer (some ⟨e, 0, none⟩)), .iface 27 (.int .i64 x)] w fun ev w' => ev = .returned (.bool true) ∧ w' = w := by
  have h8 := @run_callFunc_extern Tryd.prog 34 _ Extern.ReflectliteType.typeOf Tryd.func34 (by kernel_rfl) (by kernel_rfl) (by kernel_rfl) (by kernel_rfl)
  have h32 := @run_callFunc_extern Tryd.prog 99 _ (Extern.ReflectliteType.method fun t => do Go.Extern.Rtype.noPackHeld "Comparable" t; pure (.bool (← typeInfo t).comparable)) Tryd.func99 (by kernel_rfl) (by kernel_rfl) (by kernel_rfl) (by kernel_rfl)
  have tT := isTypeOf27
  have cT := isComparable27
  have mR := isMethodComparable
  have nW := noIs42
  have uW := hasUnwrap42
  have mU := methodUnwrap42
  have heq := eql27 x w
  have hty := run_eql_iface_types (P := Tryd.prog) 42 27 (.pointer (some ⟨e, 0, none⟩)) (.int .i64 x) Tryd.underlying24 (by decide) w
  go_enter Tryd.func16, Tryd.ntmps16
  go_wp2
  refine wp_loop_rounds 2 ?_
  rw [rounds_succ]
  go_wp2
  rw [rounds_succ]
  go_wp2
  go_ret
  exact ⟨rfl, rfl⟩
end Go.Proofs.YthifnahfcbgnoaaDoor.B
