/- What functions of this translation do, in a clean form; each text is tied to the translation by the kernel. -/
import Derived.Test.YtpolbdakhfcilaaGreatDoorEngM
import Derived.Test.YtpolbdakhfcilaaGreatDoorProg
set_option maxHeartbeats 400000
set_option maxRecDepth 1000000
set_option linter.unusedVariables false
namespace Go.Proofs.YtpolbdakhfcilaaGreatDoor.B
open Go Go.Proofs Go.Proofs.YtpolbdakhfcilaaGreatDoorEng
open Go.Value (int)
theorem mixed : Tryz.prog.follows .mixedOrders = true := by kernel_rfl
/- 68: tollbridge/scan.digit -/
def pl68 : Nat → List Nat × List Nat := fun i => planAt [] i
def la68 : List Nat → Option Ann := fun p => annAt [] p
def F68 (a0_c : Int) (w : World) (R : Value → World → Prop) (E : PanW) : Prop :=
  if decide (a0_c ≥ (48 : Int)) = true then R (Value.bool (decide (a0_c ≤ (57 : Int)))) w else R (Value.bool false) w
theorem F68_eq (a0_c : Int) (w : World) (R : Value → World → Prop) (E : PanW) : F68 a0_c w R E = cfun Tryz.prog Tryz.f68 pl68 la68 [(.int .u8 a0_c)] w R E := by kernel_rfl
theorem F68_ok : codeOk Tryz.prog Tryz.f68.ntmps pl68 (bodyOf Tryz.f68) = true := by kernel_rfl
theorem F68_calls (a0_c : Int) {w : World} {R : Value → World → Prop} {E : PanW} (h : F68 a0_c w R E) : Calls Tryz.prog 68 #[(.int .u8 a0_c)] w (endW R E) :=
  calls_of_cfun' (args := [(.int .u8 a0_c)]) mixed Tryz.func68 (by kernel_rfl) F68_ok (by kernel_rfl) (F68_eq a0_c w R E) h

/- 70: tollbridge/scan.letter -/
def pl70 : Nat → List Nat × List Nat := fun i => planAt [] i
def la70 : List Nat → Option Ann := fun p => annAt [] p
def F70 (a0_c : Int) (w : World) (R : Value → World → Prop) (E : PanW) : Prop :=
  if decide (a0_c ≥ (65 : Int)) = true then if decide (a0_c ≤ (90 : Int)) = false then if decide (a0_c ≥ (97 : Int)) = true then if decide (a0_c ≤ (122 : Int)) = false then R (Value.bool (a0_c == (95 : Int))) w else R (Value.bool true) w else R (Value.bool (a0_c == (95 : Int))) w else R (Value.bool true) w else if decide (a0_c ≥ (97 : Int)) = true then if decide (a0_c ≤ (122 : Int)) = false then R (Value.bool (a0_c == (95 : Int))) w else R (Value.bool true) w else R (Value.bool (a0_c == (95 : Int))) w
theorem F70_eq (a0_c : Int) (w : World) (R : Value → World → Prop) (E : PanW) : F70 a0_c w R E = cfun Tryz.prog Tryz.f70 pl70 la70 [(.int .u8 a0_c)] w R E := by kernel_rfl
theorem F70_ok : codeOk Tryz.prog Tryz.f70.ntmps pl70 (bodyOf Tryz.f70) = true := by kernel_rfl
theorem F70_calls (a0_c : Int) {w : World} {R : Value → World → Prop} {E : PanW} (h : F70 a0_c w R E) : Calls Tryz.prog 70 #[(.int .u8 a0_c)] w (endW R E) :=
  calls_of_cfun' (args := [(.int .u8 a0_c)]) mixed Tryz.func70 (by kernel_rfl) F70_ok (by kernel_rfl) (F70_eq a0_c w R E) h

/- 72: (*tollbridge/scan.reader).word$1 -/
def pl72 : Nat → List Nat × List Nat := fun i => planAt [] i
def la72 : List Nat → Option Ann := fun p => annAt [] p
def F72 (a0_c : Int) (w : World) (R : Value → World → Prop) (E : PanW) : Prop :=
  Calls Tryz.prog (70 : Nat) #[int .u8 a0_c] w (endW (fun v w' => ∃ (b : Bool), v = Value.bool b ∧ if b = false then Calls Tryz.prog (68 : Nat) #[int .u8 a0_c] w' (endW (fun v w' => ∃ (b : Bool), v = Value.bool b ∧ R (Value.bool b) w') fun c w => E c w) else R (Value.bool true) w') fun c w => E c w)
theorem F72_eq (a0_c : Int) (w : World) (R : Value → World → Prop) (E : PanW) : F72 a0_c w R E = cfun Tryz.prog Tryz.f72 pl72 la72 [(.int .u8 a0_c)] w R E := by kernel_rfl
theorem F72_ok : codeOk Tryz.prog Tryz.f72.ntmps pl72 (bodyOf Tryz.f72) = true := by kernel_rfl
theorem F72_calls (a0_c : Int) {w : World} {R : Value → World → Prop} {E : PanW} (h : F72 a0_c w R E) : Calls Tryz.prog 72 #[(.int .u8 a0_c)] w (endW R E) :=
  calls_of_cfun' (args := [(.int .u8 a0_c)]) mixed Tryz.func72 (by kernel_rfl) F72_ok (by kernel_rfl) (F72_eq a0_c w R E) h

/- 74: (*tollbridge/scan.reader).is -/
def pl74 : Nat → List Nat × List Nat := fun i => planAt [] i
def la74 : List Nat → Option Ann := fun p => annAt [] p
def F74 (a0_r : Option Addr) (a1_at_ : Int) (a2_c : Int) (w : World) (R : Value → World → Prop) (E : PanW) : Prop :=
  wSome a0_r fun (A : Addr) => ∃ s, w.cell? (addK A (0 : Nat)) = some (Value.string s) ∧ if decide (a1_at_ < (↑(ByteArray.size s) : Int)) = true then wSome a0_r fun (A : Addr) => ∃ s, w.cell? (addK A (0 : Nat)) = some (Value.string s) ∧ (0 : Int) ≤ a1_at_ ∧ a1_at_ < (↑(ByteArray.size s) : Int) ∧ R (Value.bool (byteAt s a1_at_ == a2_c)) w else R (Value.bool false) w
theorem F74_eq (a0_r : Option Addr) (a1_at_ : Int) (a2_c : Int) (w : World) (R : Value → World → Prop) (E : PanW) : F74 a0_r a1_at_ a2_c w R E = cfun Tryz.prog Tryz.f74 pl74 la74 [(.pointer a0_r), (.int .i64 a1_at_), (.int .u8 a2_c)] w R E := by kernel_rfl
theorem F74_ok : codeOk Tryz.prog Tryz.f74.ntmps pl74 (bodyOf Tryz.f74) = true := by kernel_rfl
theorem F74_calls (a0_r : Option Addr) (a1_at_ : Int) (a2_c : Int) {w : World} {R : Value → World → Prop} {E : PanW} (h : F74 a0_r a1_at_ a2_c w R E) : Calls Tryz.prog 74 #[(.pointer a0_r), (.int .i64 a1_at_), (.int .u8 a2_c)] w (endW R E) :=
  calls_of_cfun' (args := [(.pointer a0_r), (.int .i64 a1_at_), (.int .u8 a2_c)]) mixed Tryz.func74 (by kernel_rfl) F74_ok (by kernel_rfl) (F74_eq a0_r a1_at_ a2_c w R E) h

/- 73: (*tollbridge/scan.reader).wrong -/
def pl73 : Nat → List Nat × List Nat := fun i => planAt [(1, [0, 1, 2, 3, 5, 6, 7, 9, 10, 11, 13, 4, 8, 12, 14, 15, 16, 17], [16])] i
def la73 : List Nat → Option Ann := fun p => annAt [] p
def F73 (a0_r : Option Addr) (a1_e : Int) (a2_end_ : Int) (w : World) (R : Value → World → Prop) (E : PanW) : Prop :=
  wSome a0_r fun (A : Addr) => wSome a0_r fun (A_1 : Addr) => wSome a0_r fun (A_2 : Addr) => ∃ x, w.drew.cell? (addK A (1 : Nat)) = some (int .i64 x) ∧ ∃ s, w.drew.cell? (addK A_1 (0 : Nat)) = some (Value.string s) ∧ ∃ x_1, w.drew.cell? (addK A_2 (1 : Nat)) = some (int .i64 x_1) ∧ (0 : Int) ≤ a2_end_ ∧ a2_end_ ≤ (↑(ByteArray.size s) : Int) ∧ (0 : Int) ≤ x_1 ∧ x_1 ≤ (↑(Int.toNat a2_end_) : Int) ∧ R (Value.pointer (some ⟨w.drew.heap.size, 0, none⟩)) (World.alloc w.drew (Obj.cells #[int .i64 a1_e, int .i64 x, Value.string (ByteArray.extract s (Int.toNat x_1) (Int.toNat a2_end_))] (74 : Nat)))
theorem F73_eq (a0_r : Option Addr) (a1_e : Int) (a2_end_ : Int) (w : World) (R : Value → World → Prop) (E : PanW) : F73 a0_r a1_e a2_end_ w R E = cfun Tryz.prog Tryz.f73 pl73 la73 [(.pointer a0_r), (.int .i64 a1_e), (.int .i64 a2_end_)] w R E := by kernel_rfl
theorem F73_ok : codeOk Tryz.prog Tryz.f73.ntmps pl73 (bodyOf Tryz.f73) = true := by kernel_rfl
theorem F73_calls (a0_r : Option Addr) (a1_e : Int) (a2_end_ : Int) {w : World} {R : Value → World → Prop} {E : PanW} (h : F73 a0_r a1_e a2_end_ w R E) : Calls Tryz.prog 73 #[(.pointer a0_r), (.int .i64 a1_e), (.int .i64 a2_end_)] w (endW R E) :=
  calls_of_cfun' (args := [(.pointer a0_r), (.int .i64 a1_e), (.int .i64 a2_end_)]) mixed Tryz.func73 (by kernel_rfl) F73_ok (by kernel_rfl) (F73_eq a0_r a1_e a2_end_ w R E) h

/- 83: tollbridge/scan.hexadecimal -/
def pl83 : Nat → List Nat × List Nat := fun i => planAt [] i
def la83 : List Nat → Option Ann := fun p => annAt [] p
def F83 (a0_c : Int) (w : World) (R : Value → World → Prop) (E : PanW) : Prop :=
  Calls Tryz.prog (68 : Nat) #[int .u8 a0_c] w (endW (fun v w' => ∃ (b : Bool), v = Value.bool b ∧ if b = false then if decide (a0_c ≥ (97 : Int)) = true then if decide (a0_c ≤ (102 : Int)) = false then if decide (a0_c ≥ (65 : Int)) = true then R (Value.bool (decide (a0_c ≤ (70 : Int)))) w' else R (Value.bool false) w' else R (Value.bool true) w' else if decide (a0_c ≥ (65 : Int)) = true then R (Value.bool (decide (a0_c ≤ (70 : Int)))) w' else R (Value.bool false) w' else R (Value.bool true) w') fun c w => E c w)
theorem F83_eq (a0_c : Int) (w : World) (R : Value → World → Prop) (E : PanW) : F83 a0_c w R E = cfun Tryz.prog Tryz.f83 pl83 la83 [(.int .u8 a0_c)] w R E := by kernel_rfl
theorem F83_ok : codeOk Tryz.prog Tryz.f83.ntmps pl83 (bodyOf Tryz.f83) = true := by kernel_rfl
theorem F83_calls (a0_c : Int) {w : World} {R : Value → World → Prop} {E : PanW} (h : F83 a0_c w R E) : Calls Tryz.prog 83 #[(.int .u8 a0_c)] w (endW R E) :=
  calls_of_cfun' (args := [(.int .u8 a0_c)]) mixed Tryz.func83 (by kernel_rfl) F83_ok (by kernel_rfl) (F83_eq a0_c w R E) h

/- 106: internal/strconv.lower -/
def pl106 : Nat → List Nat × List Nat := fun i => planAt [] i
def la106 : List Nat → Option Ann := fun p => annAt [] p
def F106 (a0_c : Int) (w : World) (R : Value → World → Prop) (E : PanW) : Prop :=
  R (int .u8 (IntKind.wrap IntKind.u8 (↑(BitVec.toNat (BitVec.ofInt (8 : Nat) a0_c ||| BitVec.ofInt (8 : Nat) (32 : Int))) : Int))) w
theorem F106_eq (a0_c : Int) (w : World) (R : Value → World → Prop) (E : PanW) : F106 a0_c w R E = cfun Tryz.prog Tryz.f106 pl106 la106 [(.int .u8 a0_c)] w R E := by kernel_rfl
theorem F106_ok : codeOk Tryz.prog Tryz.f106.ntmps pl106 (bodyOf Tryz.f106) = true := by kernel_rfl
theorem F106_calls (a0_c : Int) {w : World} {R : Value → World → Prop} {E : PanW} (h : F106 a0_c w R E) : Calls Tryz.prog 106 #[(.int .u8 a0_c)] w (endW R E) :=
  calls_of_cfun' (args := [(.int .u8 a0_c)]) mixed Tryz.func106 (by kernel_rfl) F106_ok (by kernel_rfl) (F106_eq a0_c w R E) h

/- 71: (*tollbridge/scan.reader).span -/
def pl71x68 : Nat → List Nat × List Nat := fun i => planAt [] i
/- loop over 1 at -/
def an71x68_0 : Ann := { σ := Int, slots := [1], enc := fun s => [(.int .i64 s)] }
def la71x68 : List Nat → Option Ann := fun p => annAt [([0, 0, 1], an71x68_0)] p
def F71x68 (a0_r : Option Addr) (a1_at_ : Int) (w : World) (R : Value → World → Prop) (E : PanW) : Prop :=
  ∃ (I : (Int) → World → Prop), ∃ (μ : (Int) → World → Nat), (∃ (s : (Int)), (int .i64 s = int .i64 a1_at_ ∧ True) ∧ I s w) ∧ ∀ (s : (Int)) (w : World), I s w → ∀ (junk : Env), wSome a0_r fun (A : Addr) => ∃ s_1, w.cell? (addK A (0 : Nat)) = some (Value.string s_1) ∧ if decide (s < (↑(ByteArray.size s_1) : Int)) = true then wSome a0_r fun (A : Addr) => ∃ s_2, w.cell? (addK A (0 : Nat)) = some (Value.string s_2) ∧ (0 : Int) ≤ s ∧ s < (↑(ByteArray.size s_2) : Int) ∧ Calls Tryz.prog (68 : FuncId) #[int .u8 (byteAt s_2 s)] w (endW (fun v w' => ∃ (b : Bool), v = Value.bool b ∧ if b = true then ∃ (s' : (Int)), (int .i64 s' = int .i64 (IntKind.wrap IntKind.i64 (s + (1 : Int))) ∧ True) ∧ I s' w' ∧ μ s' w' < μ s w else R (int .i64 s) w') fun c w => E c w) else R (int .i64 s) w
theorem F71x68_eq (a0_r : Option Addr) (a1_at_ : Int) (w : World) (R : Value → World → Prop) (E : PanW) : F71x68 a0_r a1_at_ w R E = cfun Tryz.prog Tryz.f71 pl71x68 la71x68 [(.pointer a0_r), (.int .i64 a1_at_), (.func (.func 68) #[] #[])] w R E := by kernel_rfl
theorem F71x68_ok : codeOk Tryz.prog Tryz.f71.ntmps pl71x68 (bodyOf Tryz.f71) = true := by kernel_rfl
theorem F71x68_calls (a0_r : Option Addr) (a1_at_ : Int) {w : World} {R : Value → World → Prop} {E : PanW} (h : F71x68 a0_r a1_at_ w R E) : Calls Tryz.prog 71 #[(.pointer a0_r), (.int .i64 a1_at_), (.func (.func 68) #[] #[])] w (endW R E) :=
  calls_of_cfun' (args := [(.pointer a0_r), (.int .i64 a1_at_), (.func (.func 68) #[] #[])]) mixed Tryz.func71 (by kernel_rfl) F71x68_ok (by kernel_rfl) (F71x68_eq a0_r a1_at_ w R E) h

/- 71: (*tollbridge/scan.reader).span -/
def pl71x72 : Nat → List Nat × List Nat := fun i => planAt [] i
/- loop over 1 at -/
def an71x72_0 : Ann := { σ := Int, slots := [1], enc := fun s => [(.int .i64 s)] }
def la71x72 : List Nat → Option Ann := fun p => annAt [([0, 0, 1], an71x72_0)] p
def F71x72 (a0_r : Option Addr) (a1_at_ : Int) (w : World) (R : Value → World → Prop) (E : PanW) : Prop :=
  ∃ (I : (Int) → World → Prop), ∃ (μ : (Int) → World → Nat), (∃ (s : (Int)), (int .i64 s = int .i64 a1_at_ ∧ True) ∧ I s w) ∧ ∀ (s : (Int)) (w : World), I s w → ∀ (junk : Env), wSome a0_r fun (A : Addr) => ∃ s_1, w.cell? (addK A (0 : Nat)) = some (Value.string s_1) ∧ if decide (s < (↑(ByteArray.size s_1) : Int)) = true then wSome a0_r fun (A : Addr) => ∃ s_2, w.cell? (addK A (0 : Nat)) = some (Value.string s_2) ∧ (0 : Int) ≤ s ∧ s < (↑(ByteArray.size s_2) : Int) ∧ Calls Tryz.prog (72 : FuncId) #[int .u8 (byteAt s_2 s)] w (endW (fun v w' => ∃ (b : Bool), v = Value.bool b ∧ if b = true then ∃ (s' : (Int)), (int .i64 s' = int .i64 (IntKind.wrap IntKind.i64 (s + (1 : Int))) ∧ True) ∧ I s' w' ∧ μ s' w' < μ s w else R (int .i64 s) w') fun c w => E c w) else R (int .i64 s) w
theorem F71x72_eq (a0_r : Option Addr) (a1_at_ : Int) (w : World) (R : Value → World → Prop) (E : PanW) : F71x72 a0_r a1_at_ w R E = cfun Tryz.prog Tryz.f71 pl71x72 la71x72 [(.pointer a0_r), (.int .i64 a1_at_), (.func (.func 72) #[] #[])] w R E := by kernel_rfl
theorem F71x72_ok : codeOk Tryz.prog Tryz.f71.ntmps pl71x72 (bodyOf Tryz.f71) = true := by kernel_rfl
theorem F71x72_calls (a0_r : Option Addr) (a1_at_ : Int) {w : World} {R : Value → World → Prop} {E : PanW} (h : F71x72 a0_r a1_at_ w R E) : Calls Tryz.prog 71 #[(.pointer a0_r), (.int .i64 a1_at_), (.func (.func 72) #[] #[])] w (endW R E) :=
  calls_of_cfun' (args := [(.pointer a0_r), (.int .i64 a1_at_), (.func (.func 72) #[] #[])]) mixed Tryz.func71 (by kernel_rfl) F71x72_ok (by kernel_rfl) (F71x72_eq a0_r a1_at_ w R E) h

/- 71: (*tollbridge/scan.reader).span -/
def pl71x83 : Nat → List Nat × List Nat := fun i => planAt [] i
/- loop over 1 at -/
def an71x83_0 : Ann := { σ := Int, slots := [1], enc := fun s => [(.int .i64 s)] }
def la71x83 : List Nat → Option Ann := fun p => annAt [([0, 0, 1], an71x83_0)] p
def F71x83 (a0_r : Option Addr) (a1_at_ : Int) (w : World) (R : Value → World → Prop) (E : PanW) : Prop :=
  ∃ (I : (Int) → World → Prop), ∃ (μ : (Int) → World → Nat), (∃ (s : (Int)), (int .i64 s = int .i64 a1_at_ ∧ True) ∧ I s w) ∧ ∀ (s : (Int)) (w : World), I s w → ∀ (junk : Env), wSome a0_r fun (A : Addr) => ∃ s_1, w.cell? (addK A (0 : Nat)) = some (Value.string s_1) ∧ if decide (s < (↑(ByteArray.size s_1) : Int)) = true then wSome a0_r fun (A : Addr) => ∃ s_2, w.cell? (addK A (0 : Nat)) = some (Value.string s_2) ∧ (0 : Int) ≤ s ∧ s < (↑(ByteArray.size s_2) : Int) ∧ Calls Tryz.prog (83 : FuncId) #[int .u8 (byteAt s_2 s)] w (endW (fun v w' => ∃ (b : Bool), v = Value.bool b ∧ if b = true then ∃ (s' : (Int)), (int .i64 s' = int .i64 (IntKind.wrap IntKind.i64 (s + (1 : Int))) ∧ True) ∧ I s' w' ∧ μ s' w' < μ s w else R (int .i64 s) w') fun c w => E c w) else R (int .i64 s) w
theorem F71x83_eq (a0_r : Option Addr) (a1_at_ : Int) (w : World) (R : Value → World → Prop) (E : PanW) : F71x83 a0_r a1_at_ w R E = cfun Tryz.prog Tryz.f71 pl71x83 la71x83 [(.pointer a0_r), (.int .i64 a1_at_), (.func (.func 83) #[] #[])] w R E := by kernel_rfl
theorem F71x83_ok : codeOk Tryz.prog Tryz.f71.ntmps pl71x83 (bodyOf Tryz.f71) = true := by kernel_rfl
theorem F71x83_calls (a0_r : Option Addr) (a1_at_ : Int) {w : World} {R : Value → World → Prop} {E : PanW} (h : F71x83 a0_r a1_at_ w R E) : Calls Tryz.prog 71 #[(.pointer a0_r), (.int .i64 a1_at_), (.func (.func 83) #[] #[])] w (endW R E) :=
  calls_of_cfun' (args := [(.pointer a0_r), (.int .i64 a1_at_), (.func (.func 83) #[] #[])]) mixed Tryz.func71 (by kernel_rfl) F71x83_ok (by kernel_rfl) (F71x83_eq a0_r a1_at_ w R E) h

end Go.Proofs.YtpolbdakhfcilaaGreatDoor.B
