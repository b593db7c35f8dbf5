/- What functions of this translation do, in a clean form; each text is tied to the translation by the kernel. -/
import Derived.Test.YtooebmpjmcmkoaaBA
set_option maxHeartbeats 400000
set_option maxRecDepth 1000000
set_option linter.unusedVariables false
namespace Go.Proofs.Ytooebmpjmcmkoaa.B
open Go Go.Proofs Go.Proofs.YtooebmpjmcmkoaaEng
/- 4: tollbridge/tollbridgelaw06.LineNil -/
def pl4 : Nat → List Nat × List Nat := fun i => planAt [] i
def la4 : List Nat → Option Ann := fun p => annAt [] p
def F4 (a0_b_0 : Option Addr) (a0_b_1 : Nat) (a0_b_2 : Nat) (w : World) (R : Value → World → Prop) (E : PanW) : Prop :=
  Calls Try.prog (17 : Nat) #[Value.pointer Option.none, Value.int IntKind.u32 (3 : Int)] w (endW (fun (v : Value) (w' : World) => Calls Try.prog (18 : Nat) #[Value.pointer Option.none, Value.slice a0_b_0 a0_b_1 a0_b_2] w' (endW (fun (v : Value) (w' : World) => ∃ (x : Int), v = Value.int IntKind.i64 x ∧ if (x == (1 : Int)) = Bool.true then Calls Try.prog (19 : Nat) #[Value.pointer Option.none, Value.slice a0_b_0 a0_b_1 a0_b_2] w' (endW (fun (v : Value) (w' : World) => ∃ (x : Int), v = Value.int IntKind.i64 x ∧ if (x == (1 : Int)) = Bool.true then Calls Try.prog (20 : Nat) #[Value.pointer Option.none] w' (endW (fun (v : Value) (w' : World) => ∃ (a : Option Addr), ∃ (n : Nat), ∃ (c : Nat), v = Value.slice a n c ∧ if ((↑n : Int) == (0 : Int)) = Bool.true then Calls Try.prog (15 : Nat) #[Value.pointer Option.none] w' (endW (fun (v : Value) (w' : World) => ∃ (a : Option Addr), ∃ (n : Nat), ∃ (c : Nat), v = Value.slice a n c ∧ if ((↑n : Int) == (0 : Int)) = Bool.true then Calls Try.prog (21 : Nat) #[Value.pointer Option.none] w' (endW (fun (v : Value) (w' : World) => ∃ (x : Int), v = Value.int IntKind.i64 x ∧ if (x == (0 : Int)) = Bool.true then Calls Try.prog (10 : Nat) #[] w' (endW (fun (v : Value) (w' : World) => ∃ (b : Bool), v = Value.bool b ∧ R (Value.bool b) w') fun (c : List PanicEntry) (w : World) => E c w) else R (Value.bool Bool.false) w') fun (c : List PanicEntry) (w : World) => E c w) else R (Value.bool Bool.false) w') fun (c : List PanicEntry) (w : World) => E c w) else R (Value.bool Bool.false) w') fun (c : List PanicEntry) (w : World) => E c w) else R (Value.bool Bool.false) w') fun (c : List PanicEntry) (w : World) => E c w) else R (Value.bool Bool.false) w') fun (c : List PanicEntry) (w : World) => E c w)) fun (c : List PanicEntry) (w : World) => E c w)
theorem F4_eq (a0_b_0 : Option Addr) (a0_b_1 : Nat) (a0_b_2 : Nat) (w : World) (R : Value → World → Prop) (E : PanW) : F4 a0_b_0 a0_b_1 a0_b_2 w R E = cfun Try.prog Try.f4 pl4 la4 [(.slice a0_b_0 a0_b_1 a0_b_2)] w R E := by kernel_rfl
theorem F4_ok : codeOk Try.prog Try.f4.ntmps pl4 (bodyOf Try.f4) = true := by kernel_rfl
theorem F4_calls (a0_b_0 : Option Addr) (a0_b_1 : Nat) (a0_b_2 : Nat) {w : World} {R : Value → World → Prop} {E : PanW} (h : F4 a0_b_0 a0_b_1 a0_b_2 w R E) : Calls Try.prog 4 #[(.slice a0_b_0 a0_b_1 a0_b_2)] w (endW R E) :=
  calls_of_cfun' (args := [(.slice a0_b_0 a0_b_1 a0_b_2)]) mixed Try.func4 (by kernel_rfl) F4_ok (by kernel_rfl) (F4_eq a0_b_0 a0_b_1 a0_b_2 w R E) h

end Go.Proofs.Ytooebmpjmcmkoaa.B
