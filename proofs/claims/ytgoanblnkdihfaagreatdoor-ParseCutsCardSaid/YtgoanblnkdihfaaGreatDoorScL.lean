/-
  scan: errors.Is of a *api.Fault and its own number.
-/
import Derived.Test.YtgoanblnkdihfaaGreatDoorEngV
import Derived.Test.YtgoanblnkdihfaaGreatDoorProg
import Derived.WalkKit
import Derived.LaidEql
import Derived.Stop.Asserts
import Derived.RowKitTokens
set_option maxRecDepth 100000
namespace Go.Proofs.YtgoanblnkdihfaaGreatDoor.B
open Go Go.Proofs Go.RowKit Go.Extern.Stop Go.Stop Go.Extern

theorem isTypeOf27 (v : Value) (w : World) : (Extern.ReflectliteType.typeOf #[.iface 36 v]).run Tryz.prog w = .ok (.iface 113 (.agg #[.pointer (some ⟨6, 36, none⟩)])) w := by kernel_rfl
theorem isComparable27 (w : World) : ((Extern.ReflectliteType.method fun t => do Go.Extern.Rtype.noPackHeld "Comparable" t; (fun a => Value.bool a.comparable) <$> typeInfo t) #[.agg #[.pointer (some ⟨6, 36, none⟩)]]).run Tryz.prog w = .ok (.bool true) w := by kernel_rfl
theorem isMethodComparable (v : Value) (w : World) : (Go.method 297 113 v "Comparable").run Tryz.prog w = .ok (121, v) w := by kernel_rfl
theorem noIs42 (v : Value) (xT : TypeId) (w : World) : (Instr.typeAssert (.iface 56 v) xT 125 true).run Tryz.prog w = .ok (.tuple #[.nilIface, .bool false]) w := run_typeAssert_lacksB Tryz.underlying125 (by kernel_rfl) (by kernel_rfl) v xT w
theorem hasUnwrap42 (v : Value) (xT : TypeId) (w : World) : (Instr.typeAssert (.iface 56 v) xT 120 true).run Tryz.prog w = .ok (.tuple #[.iface 56 v, .bool true]) w := run_typeAssert_hasB Tryz.underlying120 (by kernel_rfl) v xT w
theorem methodUnwrap42 (v : Value) (w : World) : (Go.method 297 56 v "Unwrap").run Tryz.prog w = .ok (115, v) w := by kernel_rfl
theorem eql27 (x : Int) (w : World) : (binOp .eql 32 (.iface 36 (.int .i64 x)) (.iface 36 (.int .i64 x))).run Tryz.prog w = .ok (.bool true) w := by
  have h := YtgoanblnkdihfaaGreatDoorEng.ifEq_run (P := Tryz.prog) (t := 32) (x := .iface 36 (.int .i64 x)) (y := .iface 36 (.int .i64 x)) (b := true) (m := #[]) trivial
    (by
      have h1 : YtgoanblnkdihfaaGreatDoorEng.compT Tryz.prog 36 = true := by kernel_rfl
      have h2 : YtgoanblnkdihfaaGreatDoorEng.leafK (YtgoanblnkdihfaaGreatDoorEng.kindOf Tryz.prog 36) = true := by kernel_rfl
      have h3 : YtgoanblnkdihfaaGreatDoorEng.kindOf Tryz.prog 36 = 2 := by kernel_rfl
      rw [h3] at h2; simp [YtgoanblnkdihfaaGreatDoorEng.ifEq, h1, h2, h3, YtgoanblnkdihfaaGreatDoorEng.leafEq]) ⟨_, Tryz.underlying32⟩ 9998 w
  simp [binOp, Op.equal, Op.maxDepth, h]
set_option maxHeartbeats 4000000 in
theorem is_hit (e : Nat) (x : Int) (w : World) (h1 : w.cell? ⟨e, 0, none⟩ = some (.int .i64 x)) :
    Calls Tryz.prog 24 #[.iface 56 (.pointer (some ⟨e, 0, none⟩)), .iface 36 (.int .i64 x)] w fun ev w' => ev = .returned (.bool true) ∧ w' = w := by
  have h8 := @run_callFunc_extern Tryz.prog 41 _ Extern.ReflectliteType.typeOf Tryz.func41 (by kernel_rfl) (by kernel_rfl) (by kernel_rfl) (by kernel_rfl)
  have h32 := @run_callFunc_extern Tryz.prog 121 _ (Extern.ReflectliteType.method fun t => do Go.Extern.Rtype.noPackHeld "Comparable" t; pure (.bool (← typeInfo t).comparable)) Tryz.func121 (by kernel_rfl) (by kernel_rfl) (by kernel_rfl) (by kernel_rfl)
  have tT := isTypeOf27
  have cT := isComparable27
  have mR := isMethodComparable
  have nW := noIs42
  have uW := hasUnwrap42
  have mU := methodUnwrap42
  have heq := eql27 x w
  have hty := run_eql_iface_types (P := Tryz.prog) 56 36 (.pointer (some ⟨e, 0, none⟩)) (.int .i64 x) Tryz.underlying32 (by decide) w
  go_enter Tryz.func24, Tryz.ntmps24
  go_wp2
  refine wp_loop_rounds 2 ?_
  rw [rounds_succ]
  go_wp2
  rw [rounds_succ]
  go_wp2
  go_ret
  exact ⟨rfl, rfl⟩
end Go.Proofs.YtgoanblnkdihfaaGreatDoor.B
