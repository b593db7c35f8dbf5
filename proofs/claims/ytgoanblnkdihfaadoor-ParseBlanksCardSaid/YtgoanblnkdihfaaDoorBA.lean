/- What functions of this translation do, in a clean form; each text is tied to the translation by the kernel. -/
import Derived.Test.YtgoanblnkdihfaaDoorEngM
import Derived.Test.YtgoanblnkdihfaaDoorProg
set_option maxHeartbeats 400000
set_option maxRecDepth 1000000
set_option linter.unusedVariables false
namespace Go.Proofs.YtgoanblnkdihfaaDoor.B
open Go Go.Proofs Go.Proofs.YtgoanblnkdihfaaDoorEng
open Go.Value (int)
theorem mixed : Tryd.prog.follows .mixedOrders = true := by kernel_rfl
/- 31: tollbridge/scan.digit -/
def pl31 : Nat → List Nat × List Nat := fun i => planAt [] i
def la31 : List Nat → Option Ann := fun p => annAt [] p
def F31 (a0_c : Int) (w : World) (R : Value → World → Prop) (E : PanW) : Prop :=
  if decide (a0_c ≥ (48 : Int)) = true then R (Value.bool (decide (a0_c ≤ (57 : Int)))) w else R (Value.bool false) w
theorem F31_eq (a0_c : Int) (w : World) (R : Value → World → Prop) (E : PanW) : F31 a0_c w R E = cfun Tryd.prog Tryd.f31 pl31 la31 [(.int .u8 a0_c)] w R E := by kernel_rfl
theorem F31_ok : codeOk Tryd.prog Tryd.f31.ntmps pl31 (bodyOf Tryd.f31) = true := by kernel_rfl
theorem F31_calls (a0_c : Int) {w : World} {R : Value → World → Prop} {E : PanW} (h : F31 a0_c w R E) : Calls Tryd.prog 31 #[(.int .u8 a0_c)] w (endW R E) :=
  calls_of_cfun' (args := [(.int .u8 a0_c)]) mixed Tryd.func31 (by kernel_rfl) F31_ok (by kernel_rfl) (F31_eq a0_c w R E) h

/- 33: tollbridge/scan.letter -/
def pl33 : Nat → List Nat × List Nat := fun i => planAt [] i
def la33 : List Nat → Option Ann := fun p => annAt [] p
def F33 (a0_c : Int) (w : World) (R : Value → World → Prop) (E : PanW) : Prop :=
  if decide (a0_c ≥ (65 : Int)) = true then if decide (a0_c ≤ (90 : Int)) = false then if decide (a0_c ≥ (97 : Int)) = true then if decide (a0_c ≤ (122 : Int)) = false then R (Value.bool (a0_c == (95 : Int))) w else R (Value.bool true) w else R (Value.bool (a0_c == (95 : Int))) w else R (Value.bool true) w else if decide (a0_c ≥ (97 : Int)) = true then if decide (a0_c ≤ (122 : Int)) = false then R (Value.bool (a0_c == (95 : Int))) w else R (Value.bool true) w else R (Value.bool (a0_c == (95 : Int))) w
theorem F33_eq (a0_c : Int) (w : World) (R : Value → World → Prop) (E : PanW) : F33 a0_c w R E = cfun Tryd.prog Tryd.f33 pl33 la33 [(.int .u8 a0_c)] w R E := by kernel_rfl
theorem F33_ok : codeOk Tryd.prog Tryd.f33.ntmps pl33 (bodyOf Tryd.f33) = true := by kernel_rfl
theorem F33_calls (a0_c : Int) {w : World} {R : Value → World → Prop} {E : PanW} (h : F33 a0_c w R E) : Calls Tryd.prog 33 #[(.int .u8 a0_c)] w (endW R E) :=
  calls_of_cfun' (args := [(.int .u8 a0_c)]) mixed Tryd.func33 (by kernel_rfl) F33_ok (by kernel_rfl) (F33_eq a0_c w R E) h

/- 35: (*tollbridge/scan.reader).word$1 -/
def pl35 : Nat → List Nat × List Nat := fun i => planAt [] i
def la35 : List Nat → Option Ann := fun p => annAt [] p
def F35 (a0_c : Int) (w : World) (R : Value → World → Prop) (E : PanW) : Prop :=
  Calls Tryd.prog (33 : Nat) #[int .u8 a0_c] w (endW (fun v w' => ∃ (b : Bool), v = Value.bool b ∧ if b = false then Calls Tryd.prog (31 : Nat) #[int .u8 a0_c] w' (endW (fun v w' => ∃ (b : Bool), v = Value.bool b ∧ R (Value.bool b) w') fun c w => E c w) else R (Value.bool true) w') fun c w => E c w)
theorem F35_eq (a0_c : Int) (w : World) (R : Value → World → Prop) (E : PanW) : F35 a0_c w R E = cfun Tryd.prog Tryd.f35 pl35 la35 [(.int .u8 a0_c)] w R E := by kernel_rfl
theorem F35_ok : codeOk Tryd.prog Tryd.f35.ntmps pl35 (bodyOf Tryd.f35) = true := by kernel_rfl
theorem F35_calls (a0_c : Int) {w : World} {R : Value → World → Prop} {E : PanW} (h : F35 a0_c w R E) : Calls Tryd.prog 35 #[(.int .u8 a0_c)] w (endW R E) :=
  calls_of_cfun' (args := [(.int .u8 a0_c)]) mixed Tryd.func35 (by kernel_rfl) F35_ok (by kernel_rfl) (F35_eq a0_c w R E) h

/- 37: (*tollbridge/scan.reader).is -/
def pl37 : Nat → List Nat × List Nat := fun i => planAt [] i
def la37 : List Nat → Option Ann := fun p => annAt [] p
def F37 (a0_r : Option Addr) (a1_at_ : Int) (a2_c : Int) (w : World) (R : Value → World → Prop) (E : PanW) : Prop :=
  wSome a0_r fun (A : Addr) => ∃ s, w.cell? (addK A (0 : Nat)) = some (Value.string s) ∧ if decide (a1_at_ < (↑(ByteArray.size s) : Int)) = true then wSome a0_r fun (A : Addr) => ∃ s, w.cell? (addK A (0 : Nat)) = some (Value.string s) ∧ (0 : Int) ≤ a1_at_ ∧ a1_at_ < (↑(ByteArray.size s) : Int) ∧ R (Value.bool (byteAt s a1_at_ == a2_c)) w else R (Value.bool false) w
theorem F37_eq (a0_r : Option Addr) (a1_at_ : Int) (a2_c : Int) (w : World) (R : Value → World → Prop) (E : PanW) : F37 a0_r a1_at_ a2_c w R E = cfun Tryd.prog Tryd.f37 pl37 la37 [(.pointer a0_r), (.int .i64 a1_at_), (.int .u8 a2_c)] w R E := by kernel_rfl
theorem F37_ok : codeOk Tryd.prog Tryd.f37.ntmps pl37 (bodyOf Tryd.f37) = true := by kernel_rfl
theorem F37_calls (a0_r : Option Addr) (a1_at_ : Int) (a2_c : Int) {w : World} {R : Value → World → Prop} {E : PanW} (h : F37 a0_r a1_at_ a2_c w R E) : Calls Tryd.prog 37 #[(.pointer a0_r), (.int .i64 a1_at_), (.int .u8 a2_c)] w (endW R E) :=
  calls_of_cfun' (args := [(.pointer a0_r), (.int .i64 a1_at_), (.int .u8 a2_c)]) mixed Tryd.func37 (by kernel_rfl) F37_ok (by kernel_rfl) (F37_eq a0_r a1_at_ a2_c w R E) h

/- 36: (*tollbridge/scan.reader).wrong -/
def pl36 : Nat → List Nat × List Nat := fun i => planAt [(1, [0, 1, 2, 3, 5, 6, 7, 9, 10, 11, 13, 4, 8, 12, 14, 15, 16, 17], [16])] i
def la36 : List Nat → Option Ann := fun p => annAt [] p
def F36 (a0_r : Option Addr) (a1_e : Int) (a2_end_ : Int) (w : World) (R : Value → World → Prop) (E : PanW) : Prop :=
  wSome a0_r fun (A : Addr) => wSome a0_r fun (A_1 : Addr) => wSome a0_r fun (A_2 : Addr) => ∃ x, w.drew.cell? (addK A (1 : Nat)) = some (int .i64 x) ∧ ∃ s, w.drew.cell? (addK A_1 (0 : Nat)) = some (Value.string s) ∧ ∃ x_1, w.drew.cell? (addK A_2 (1 : Nat)) = some (int .i64 x_1) ∧ (0 : Int) ≤ a2_end_ ∧ a2_end_ ≤ (↑(ByteArray.size s) : Int) ∧ (0 : Int) ≤ x_1 ∧ x_1 ≤ (↑(Int.toNat a2_end_) : Int) ∧ R (Value.pointer (some ⟨w.drew.heap.size, 0, none⟩)) (World.alloc w.drew (Obj.cells #[int .i64 a1_e, int .i64 x, Value.string (ByteArray.extract s (Int.toNat x_1) (Int.toNat a2_end_))] (62 : Nat)))
theorem F36_eq (a0_r : Option Addr) (a1_e : Int) (a2_end_ : Int) (w : World) (R : Value → World → Prop) (E : PanW) : F36 a0_r a1_e a2_end_ w R E = cfun Tryd.prog Tryd.f36 pl36 la36 [(.pointer a0_r), (.int .i64 a1_e), (.int .i64 a2_end_)] w R E := by kernel_rfl
theorem F36_ok : codeOk Tryd.prog Tryd.f36.ntmps pl36 (bodyOf Tryd.f36) = true := by kernel_rfl
theorem F36_calls (a0_r : Option Addr) (a1_e : Int) (a2_end_ : Int) {w : World} {R : Value → World → Prop} {E : PanW} (h : F36 a0_r a1_e a2_end_ w R E) : Calls Tryd.prog 36 #[(.pointer a0_r), (.int .i64 a1_e), (.int .i64 a2_end_)] w (endW R E) :=
  calls_of_cfun' (args := [(.pointer a0_r), (.int .i64 a1_e), (.int .i64 a2_end_)]) mixed Tryd.func36 (by kernel_rfl) F36_ok (by kernel_rfl) (F36_eq a0_r a1_e a2_end_ w R E) h

/- 43: tollbridge/scan.hexadecimal -/
def pl43 : Nat → List Nat × List Nat := fun i => planAt [] i
def la43 : List Nat → Option Ann := fun p => annAt [] p
def F43 (a0_c : Int) (w : World) (R : Value → World → Prop) (E : PanW) : Prop :=
  Calls Tryd.prog (31 : Nat) #[int .u8 a0_c] w (endW (fun v w' => ∃ (b : Bool), v = Value.bool b ∧ if b = false then if decide (a0_c ≥ (97 : Int)) = true then if decide (a0_c ≤ (102 : Int)) = false then if decide (a0_c ≥ (65 : Int)) = true then R (Value.bool (decide (a0_c ≤ (70 : Int)))) w' else R (Value.bool false) w' else R (Value.bool true) w' else if decide (a0_c ≥ (65 : Int)) = true then R (Value.bool (decide (a0_c ≤ (70 : Int)))) w' else R (Value.bool false) w' else R (Value.bool true) w') fun c w => E c w)
theorem F43_eq (a0_c : Int) (w : World) (R : Value → World → Prop) (E : PanW) : F43 a0_c w R E = cfun Tryd.prog Tryd.f43 pl43 la43 [(.int .u8 a0_c)] w R E := by kernel_rfl
theorem F43_ok : codeOk Tryd.prog Tryd.f43.ntmps pl43 (bodyOf Tryd.f43) = true := by kernel_rfl
theorem F43_calls (a0_c : Int) {w : World} {R : Value → World → Prop} {E : PanW} (h : F43 a0_c w R E) : Calls Tryd.prog 43 #[(.int .u8 a0_c)] w (endW R E) :=
  calls_of_cfun' (args := [(.int .u8 a0_c)]) mixed Tryd.func43 (by kernel_rfl) F43_ok (by kernel_rfl) (F43_eq a0_c w R E) h

/- 57: internal/strconv.lower -/
def pl57 : Nat → List Nat × List Nat := fun i => planAt [] i
def la57 : List Nat → Option Ann := fun p => annAt [] p
def F57 (a0_c : Int) (w : World) (R : Value → World → Prop) (E : PanW) : Prop :=
  R (int .u8 (IntKind.wrap IntKind.u8 (↑(BitVec.toNat (BitVec.ofInt (8 : Nat) a0_c ||| BitVec.ofInt (8 : Nat) (32 : Int))) : Int))) w
theorem F57_eq (a0_c : Int) (w : World) (R : Value → World → Prop) (E : PanW) : F57 a0_c w R E = cfun Tryd.prog Tryd.f57 pl57 la57 [(.int .u8 a0_c)] w R E := by kernel_rfl
theorem F57_ok : codeOk Tryd.prog Tryd.f57.ntmps pl57 (bodyOf Tryd.f57) = true := by kernel_rfl
theorem F57_calls (a0_c : Int) {w : World} {R : Value → World → Prop} {E : PanW} (h : F57 a0_c w R E) : Calls Tryd.prog 57 #[(.int .u8 a0_c)] w (endW R E) :=
  calls_of_cfun' (args := [(.int .u8 a0_c)]) mixed Tryd.func57 (by kernel_rfl) F57_ok (by kernel_rfl) (F57_eq a0_c w R E) h

/- 34: (*tollbridge/scan.reader).span -/
def pl34x31 : Nat → List Nat × List Nat := fun i => planAt [] i
/- loop over 1 at -/
def an34x31_0 : Ann := { σ := Int, slots := [1], enc := fun s => [(.int .i64 s)] }
def la34x31 : List Nat → Option Ann := fun p => annAt [([0, 0, 1], an34x31_0)] p
def F34x31 (a0_r : Option Addr) (a1_at_ : Int) (w : World) (R : Value → World → Prop) (E : PanW) : Prop :=
  ∃ (I : (Int) → World → Prop), ∃ (μ : (Int) → World → Nat), (∃ (s : (Int)), (int .i64 s = int .i64 a1_at_ ∧ True) ∧ I s w) ∧ ∀ (s : (Int)) (w : World), I s w → ∀ (junk : Env), wSome a0_r fun (A : Addr) => ∃ s_1, w.cell? (addK A (0 : Nat)) = some (Value.string s_1) ∧ if decide (s < (↑(ByteArray.size s_1) : Int)) = true then wSome a0_r fun (A : Addr) => ∃ s_2, w.cell? (addK A (0 : Nat)) = some (Value.string s_2) ∧ (0 : Int) ≤ s ∧ s < (↑(ByteArray.size s_2) : Int) ∧ Calls Tryd.prog (31 : FuncId) #[int .u8 (byteAt s_2 s)] w (endW (fun v w' => ∃ (b : Bool), v = Value.bool b ∧ if b = true then ∃ (s' : (Int)), (int .i64 s' = int .i64 (IntKind.wrap IntKind.i64 (s + (1 : Int))) ∧ True) ∧ I s' w' ∧ μ s' w' < μ s w else R (int .i64 s) w') fun c w => E c w) else R (int .i64 s) w
theorem F34x31_eq (a0_r : Option Addr) (a1_at_ : Int) (w : World) (R : Value → World → Prop) (E : PanW) : F34x31 a0_r a1_at_ w R E = cfun Tryd.prog Tryd.f34 pl34x31 la34x31 [(.pointer a0_r), (.int .i64 a1_at_), (.func (.func 31) #[] #[])] w R E := by kernel_rfl
theorem F34x31_ok : codeOk Tryd.prog Tryd.f34.ntmps pl34x31 (bodyOf Tryd.f34) = true := by kernel_rfl
theorem F34x31_calls (a0_r : Option Addr) (a1_at_ : Int) {w : World} {R : Value → World → Prop} {E : PanW} (h : F34x31 a0_r a1_at_ w R E) : Calls Tryd.prog 34 #[(.pointer a0_r), (.int .i64 a1_at_), (.func (.func 31) #[] #[])] w (endW R E) :=
  calls_of_cfun' (args := [(.pointer a0_r), (.int .i64 a1_at_), (.func (.func 31) #[] #[])]) mixed Tryd.func34 (by kernel_rfl) F34x31_ok (by kernel_rfl) (F34x31_eq a0_r a1_at_ w R E) h

/- 34: (*tollbridge/scan.reader).span -/
def pl34x35 : Nat → List Nat × List Nat := fun i => planAt [] i
/- loop over 1 at -/
def an34x35_0 : Ann := { σ := Int, slots := [1], enc := fun s => [(.int .i64 s)] }
def la34x35 : List Nat → Option Ann := fun p => annAt [([0, 0, 1], an34x35_0)] p
def F34x35 (a0_r : Option Addr) (a1_at_ : Int) (w : World) (R : Value → World → Prop) (E : PanW) : Prop :=
  ∃ (I : (Int) → World → Prop), ∃ (μ : (Int) → World → Nat), (∃ (s : (Int)), (int .i64 s = int .i64 a1_at_ ∧ True) ∧ I s w) ∧ ∀ (s : (Int)) (w : World), I s w → ∀ (junk : Env), wSome a0_r fun (A : Addr) => ∃ s_1, w.cell? (addK A (0 : Nat)) = some (Value.string s_1) ∧ if decide (s < (↑(ByteArray.size s_1) : Int)) = true then wSome a0_r fun (A : Addr) => ∃ s_2, w.cell? (addK A (0 : Nat)) = some (Value.string s_2) ∧ (0 : Int) ≤ s ∧ s < (↑(ByteArray.size s_2) : Int) ∧ Calls Tryd.prog (35 : FuncId) #[int .u8 (byteAt s_2 s)] w (endW (fun v w' => ∃ (b : Bool), v = Value.bool b ∧ if b = true then ∃ (s' : (Int)), (int .i64 s' = int .i64 (IntKind.wrap IntKind.i64 (s + (1 : Int))) ∧ True) ∧ I s' w' ∧ μ s' w' < μ s w else R (int .i64 s) w') fun c w => E c w) else R (int .i64 s) w
theorem F34x35_eq (a0_r : Option Addr) (a1_at_ : Int) (w : World) (R : Value → World → Prop) (E : PanW) : F34x35 a0_r a1_at_ w R E = cfun Tryd.prog Tryd.f34 pl34x35 la34x35 [(.pointer a0_r), (.int .i64 a1_at_), (.func (.func 35) #[] #[])] w R E := by kernel_rfl
theorem F34x35_ok : codeOk Tryd.prog Tryd.f34.ntmps pl34x35 (bodyOf Tryd.f34) = true := by kernel_rfl
theorem F34x35_calls (a0_r : Option Addr) (a1_at_ : Int) {w : World} {R : Value → World → Prop} {E : PanW} (h : F34x35 a0_r a1_at_ w R E) : Calls Tryd.prog 34 #[(.pointer a0_r), (.int .i64 a1_at_), (.func (.func 35) #[] #[])] w (endW R E) :=
  calls_of_cfun' (args := [(.pointer a0_r), (.int .i64 a1_at_), (.func (.func 35) #[] #[])]) mixed Tryd.func34 (by kernel_rfl) F34x35_ok (by kernel_rfl) (F34x35_eq a0_r a1_at_ w R E) h

/- 34: (*tollbridge/scan.reader).span -/
def pl34x43 : Nat → List Nat × List Nat := fun i => planAt [] i
/- loop over 1 at -/
def an34x43_0 : Ann := { σ := Int, slots := [1], enc := fun s => [(.int .i64 s)] }
def la34x43 : List Nat → Option Ann := fun p => annAt [([0, 0, 1], an34x43_0)] p
def F34x43 (a0_r : Option Addr) (a1_at_ : Int) (w : World) (R : Value → World → Prop) (E : PanW) : Prop :=
  ∃ (I : (Int) → World → Prop), ∃ (μ : (Int) → World → Nat), (∃ (s : (Int)), (int .i64 s = int .i64 a1_at_ ∧ True) ∧ I s w) ∧ ∀ (s : (Int)) (w : World), I s w → ∀ (junk : Env), wSome a0_r fun (A : Addr) => ∃ s_1, w.cell? (addK A (0 : Nat)) = some (Value.string s_1) ∧ if decide (s < (↑(ByteArray.size s_1) : Int)) = true then wSome a0_r fun (A : Addr) => ∃ s_2, w.cell? (addK A (0 : Nat)) = some (Value.string s_2) ∧ (0 : Int) ≤ s ∧ s < (↑(ByteArray.size s_2) : Int) ∧ Calls Tryd.prog (43 : FuncId) #[int .u8 (byteAt s_2 s)] w (endW (fun v w' => ∃ (b : Bool), v = Value.bool b ∧ if b = true then ∃ (s' : (Int)), (int .i64 s' = int .i64 (IntKind.wrap IntKind.i64 (s + (1 : Int))) ∧ True) ∧ I s' w' ∧ μ s' w' < μ s w else R (int .i64 s) w') fun c w => E c w) else R (int .i64 s) w
theorem F34x43_eq (a0_r : Option Addr) (a1_at_ : Int) (w : World) (R : Value → World → Prop) (E : PanW) : F34x43 a0_r a1_at_ w R E = cfun Tryd.prog Tryd.f34 pl34x43 la34x43 [(.pointer a0_r), (.int .i64 a1_at_), (.func (.func 43) #[] #[])] w R E := by kernel_rfl
theorem F34x43_ok : codeOk Tryd.prog Tryd.f34.ntmps pl34x43 (bodyOf Tryd.f34) = true := by kernel_rfl
theorem F34x43_calls (a0_r : Option Addr) (a1_at_ : Int) {w : World} {R : Value → World → Prop} {E : PanW} (h : F34x43 a0_r a1_at_ w R E) : Calls Tryd.prog 34 #[(.pointer a0_r), (.int .i64 a1_at_), (.func (.func 43) #[] #[])] w (endW R E) :=
  calls_of_cfun' (args := [(.pointer a0_r), (.int .i64 a1_at_), (.func (.func 43) #[] #[])]) mixed Tryd.func34 (by kernel_rfl) F34x43_ok (by kernel_rfl) (F34x43_eq a0_r a1_at_ w R E) h

end Go.Proofs.YtgoanblnkdihfaaDoor.B
