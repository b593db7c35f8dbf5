/- What functions of this translation do, in a clean form; each text is tied to the translation by the kernel. -/
import Derived.Test.YthifnahfcbgnoaaDoorEngM
import Derived.Test.YthifnahfcbgnoaaDoorProg
set_option maxHeartbeats 400000
set_option maxRecDepth 1000000
set_option linter.unusedVariables false
namespace Go.Proofs.YthifnahfcbgnoaaDoor.B
open Go Go.Proofs Go.Proofs.YthifnahfcbgnoaaDoorEng
theorem mixed : Tryd.prog.follows .mixedOrders = true := by kernel_rfl
/- 18: tollbridge/scan.digit -/
def pl18 : Nat → List Nat × List Nat := fun i => planAt [] i
def la18 : List Nat → Option Ann := fun p => annAt [] p
def F18 (a0_c : Int) (w : World) (R : Value → World → Prop) (E : PanW) : Prop :=
  if Decidable.decide (a0_c ≥ (48 : Int)) = Bool.true then R (Value.bool (Decidable.decide (a0_c ≤ (57 : Int)))) w else R (Value.bool Bool.false) w
theorem F18_eq (a0_c : Int) (w : World) (R : Value → World → Prop) (E : PanW) : F18 a0_c w R E = cfun Tryd.prog Tryd.f18 pl18 la18 [(.int .u8 a0_c)] w R E := by kernel_rfl
theorem F18_ok : codeOk Tryd.prog Tryd.f18.ntmps pl18 (bodyOf Tryd.f18) = true := by kernel_rfl
theorem F18_calls (a0_c : Int) {w : World} {R : Value → World → Prop} {E : PanW} (h : F18 a0_c w R E) : Calls Tryd.prog 18 #[(.int .u8 a0_c)] w (endW R E) :=
  calls_of_cfun' (args := [(.int .u8 a0_c)]) mixed Tryd.func18 (by kernel_rfl) F18_ok (by kernel_rfl) (F18_eq a0_c w R E) h

/- 20: tollbridge/scan.letter -/
def pl20 : Nat → List Nat × List Nat := fun i => planAt [] i
def la20 : List Nat → Option Ann := fun p => annAt [] p
def F20 (a0_c : Int) (w : World) (R : Value → World → Prop) (E : PanW) : Prop :=
  if Decidable.decide (a0_c ≥ (65 : Int)) = Bool.true then if Decidable.decide (a0_c ≤ (90 : Int)) = Bool.false then if Decidable.decide (a0_c ≥ (97 : Int)) = Bool.true then if Decidable.decide (a0_c ≤ (122 : Int)) = Bool.false then R (Value.bool (a0_c == (95 : Int))) w else R (Value.bool Bool.true) w else R (Value.bool (a0_c == (95 : Int))) w else R (Value.bool Bool.true) w else if Decidable.decide (a0_c ≥ (97 : Int)) = Bool.true then if Decidable.decide (a0_c ≤ (122 : Int)) = Bool.false then R (Value.bool (a0_c == (95 : Int))) w else R (Value.bool Bool.true) w else R (Value.bool (a0_c == (95 : Int))) w
theorem F20_eq (a0_c : Int) (w : World) (R : Value → World → Prop) (E : PanW) : F20 a0_c w R E = cfun Tryd.prog Tryd.f20 pl20 la20 [(.int .u8 a0_c)] w R E := by kernel_rfl
theorem F20_ok : codeOk Tryd.prog Tryd.f20.ntmps pl20 (bodyOf Tryd.f20) = true := by kernel_rfl
theorem F20_calls (a0_c : Int) {w : World} {R : Value → World → Prop} {E : PanW} (h : F20 a0_c w R E) : Calls Tryd.prog 20 #[(.int .u8 a0_c)] w (endW R E) :=
  calls_of_cfun' (args := [(.int .u8 a0_c)]) mixed Tryd.func20 (by kernel_rfl) F20_ok (by kernel_rfl) (F20_eq a0_c w R E) h

/- 22: (*tollbridge/scan.reader).word$1 -/
def pl22 : Nat → List Nat × List Nat := fun i => planAt [] i
def la22 : List Nat → Option Ann := fun p => annAt [] p
def F22 (a0_c : Int) (w : World) (R : Value → World → Prop) (E : PanW) : Prop :=
  Calls Tryd.prog (20 : Nat) #[Value.int IntKind.u8 a0_c] w (endW (fun (v : Value) (w' : World) => ∃ (b : Bool), v = Value.bool b ∧ if b = Bool.false then Calls Tryd.prog (18 : Nat) #[Value.int IntKind.u8 a0_c] w' (endW (fun (v : Value) (w' : World) => ∃ (b : Bool), v = Value.bool b ∧ R (Value.bool b) w') fun (c : List PanicEntry) (w : World) => E c w) else R (Value.bool Bool.true) w') fun (c : List PanicEntry) (w : World) => E c w)
theorem F22_eq (a0_c : Int) (w : World) (R : Value → World → Prop) (E : PanW) : F22 a0_c w R E = cfun Tryd.prog Tryd.f22 pl22 la22 [(.int .u8 a0_c)] w R E := by kernel_rfl
theorem F22_ok : codeOk Tryd.prog Tryd.f22.ntmps pl22 (bodyOf Tryd.f22) = true := by kernel_rfl
theorem F22_calls (a0_c : Int) {w : World} {R : Value → World → Prop} {E : PanW} (h : F22 a0_c w R E) : Calls Tryd.prog 22 #[(.int .u8 a0_c)] w (endW R E) :=
  calls_of_cfun' (args := [(.int .u8 a0_c)]) mixed Tryd.func22 (by kernel_rfl) F22_ok (by kernel_rfl) (F22_eq a0_c w R E) h

/- 24: (*tollbridge/scan.reader).is -/
def pl24 : Nat → List Nat × List Nat := fun i => planAt [] i
def la24 : List Nat → Option Ann := fun p => annAt [] p
def F24 (a0_r : Option Addr) (a1_at_ : Int) (a2_c : Int) (w : World) (R : Value → World → Prop) (E : PanW) : Prop :=
  wSome a0_r fun (A : Addr) => ∃ (s : ByteArray), World.cell? w (addK A (0 : Nat)) = Option.some (Value.string s) ∧ if Decidable.decide (a1_at_ < (↑(ByteArray.size s) : Int)) = Bool.true then wSome a0_r fun (A : Addr) => ∃ (s : ByteArray), World.cell? w (addK A (0 : Nat)) = Option.some (Value.string s) ∧ (0 : Int) ≤ a1_at_ ∧ a1_at_ < (↑(ByteArray.size s) : Int) ∧ R (Value.bool (byteAt s a1_at_ == a2_c)) w else R (Value.bool Bool.false) w
theorem F24_eq (a0_r : Option Addr) (a1_at_ : Int) (a2_c : Int) (w : World) (R : Value → World → Prop) (E : PanW) : F24 a0_r a1_at_ a2_c w R E = cfun Tryd.prog Tryd.f24 pl24 la24 [(.pointer a0_r), (.int .i64 a1_at_), (.int .u8 a2_c)] w R E := by kernel_rfl
theorem F24_ok : codeOk Tryd.prog Tryd.f24.ntmps pl24 (bodyOf Tryd.f24) = true := by kernel_rfl
theorem F24_calls (a0_r : Option Addr) (a1_at_ : Int) (a2_c : Int) {w : World} {R : Value → World → Prop} {E : PanW} (h : F24 a0_r a1_at_ a2_c w R E) : Calls Tryd.prog 24 #[(.pointer a0_r), (.int .i64 a1_at_), (.int .u8 a2_c)] w (endW R E) :=
  calls_of_cfun' (args := [(.pointer a0_r), (.int .i64 a1_at_), (.int .u8 a2_c)]) mixed Tryd.func24 (by kernel_rfl) F24_ok (by kernel_rfl) (F24_eq a0_r a1_at_ a2_c w R E) h

/- 23: (*tollbridge/scan.reader).wrong -/
def pl23 : Nat → List Nat × List Nat := fun i => planAt [(1, [0, 1, 2, 3, 5, 6, 7, 9, 10, 11, 13, 4, 8, 12, 14, 15, 16, 17], [16])] i
def la23 : List Nat → Option Ann := fun p => annAt [] p
def F23 (a0_r : Option Addr) (a1_e : Int) (a2_end_ : Int) (w : World) (R : Value → World → Prop) (E : PanW) : Prop :=
  wSome a0_r fun (A : Addr) => wSome a0_r fun (A_1 : Addr) => wSome a0_r fun (A_2 : Addr) => ∃ (x : Int), World.cell? (World.drew w) (addK A (1 : Nat)) = Option.some (Value.int IntKind.i64 x) ∧ ∃ (s : ByteArray), World.cell? (World.drew w) (addK A_1 (0 : Nat)) = Option.some (Value.string s) ∧ ∃ (x_1 : Int), World.cell? (World.drew w) (addK A_2 (1 : Nat)) = Option.some (Value.int IntKind.i64 x_1) ∧ (0 : Int) ≤ a2_end_ ∧ a2_end_ ≤ (↑(ByteArray.size s) : Int) ∧ (0 : Int) ≤ x_1 ∧ x_1 ≤ (↑(Int.toNat a2_end_) : Int) ∧ R (Value.pointer (Option.some { block := Array.size (World.heap (World.drew w)), off := (0 : Nat) })) (World.alloc (World.drew w) (Obj.cells #[Value.int IntKind.i64 a1_e, Value.int IntKind.i64 x, Value.string (ByteArray.extract s (Int.toNat x_1) (Int.toNat a2_end_))] (44 : Nat)))
theorem F23_eq (a0_r : Option Addr) (a1_e : Int) (a2_end_ : Int) (w : World) (R : Value → World → Prop) (E : PanW) : F23 a0_r a1_e a2_end_ w R E = cfun Tryd.prog Tryd.f23 pl23 la23 [(.pointer a0_r), (.int .i64 a1_e), (.int .i64 a2_end_)] w R E := by kernel_rfl
theorem F23_ok : codeOk Tryd.prog Tryd.f23.ntmps pl23 (bodyOf Tryd.f23) = true := by kernel_rfl
theorem F23_calls (a0_r : Option Addr) (a1_e : Int) (a2_end_ : Int) {w : World} {R : Value → World → Prop} {E : PanW} (h : F23 a0_r a1_e a2_end_ w R E) : Calls Tryd.prog 23 #[(.pointer a0_r), (.int .i64 a1_e), (.int .i64 a2_end_)] w (endW R E) :=
  calls_of_cfun' (args := [(.pointer a0_r), (.int .i64 a1_e), (.int .i64 a2_end_)]) mixed Tryd.func23 (by kernel_rfl) F23_ok (by kernel_rfl) (F23_eq a0_r a1_e a2_end_ w R E) h

/- 26: tollbridge/tollbridgeref15.digit -/
def pl26 : Nat → List Nat × List Nat := fun i => planAt [] i
def la26 : List Nat → Option Ann := fun p => annAt [] p
def F26 (a0_c : Int) (w : World) (R : Value → World → Prop) (E : PanW) : Prop :=
  if Decidable.decide (a0_c ≥ (48 : Int)) = Bool.true then R (Value.bool (Decidable.decide (a0_c ≤ (57 : Int)))) w else R (Value.bool Bool.false) w
theorem F26_eq (a0_c : Int) (w : World) (R : Value → World → Prop) (E : PanW) : F26 a0_c w R E = cfun Tryd.prog Tryd.f26 pl26 la26 [(.int .u8 a0_c)] w R E := by kernel_rfl
theorem F26_ok : codeOk Tryd.prog Tryd.f26.ntmps pl26 (bodyOf Tryd.f26) = true := by kernel_rfl
theorem F26_calls (a0_c : Int) {w : World} {R : Value → World → Prop} {E : PanW} (h : F26 a0_c w R E) : Calls Tryd.prog 26 #[(.int .u8 a0_c)] w (endW R E) :=
  calls_of_cfun' (args := [(.int .u8 a0_c)]) mixed Tryd.func26 (by kernel_rfl) F26_ok (by kernel_rfl) (F26_eq a0_c w R E) h

/- 28: tollbridge/tollbridgeref15.letter -/
def pl28 : Nat → List Nat × List Nat := fun i => planAt [] i
def la28 : List Nat → Option Ann := fun p => annAt [] p
def F28 (a0_c : Int) (w : World) (R : Value → World → Prop) (E : PanW) : Prop :=
  if Decidable.decide (a0_c ≥ (65 : Int)) = Bool.true then if Decidable.decide (a0_c ≤ (90 : Int)) = Bool.false then if Decidable.decide (a0_c ≥ (97 : Int)) = Bool.true then if Decidable.decide (a0_c ≤ (122 : Int)) = Bool.false then R (Value.bool (a0_c == (95 : Int))) w else R (Value.bool Bool.true) w else R (Value.bool (a0_c == (95 : Int))) w else R (Value.bool Bool.true) w else if Decidable.decide (a0_c ≥ (97 : Int)) = Bool.true then if Decidable.decide (a0_c ≤ (122 : Int)) = Bool.false then R (Value.bool (a0_c == (95 : Int))) w else R (Value.bool Bool.true) w else R (Value.bool (a0_c == (95 : Int))) w
theorem F28_eq (a0_c : Int) (w : World) (R : Value → World → Prop) (E : PanW) : F28 a0_c w R E = cfun Tryd.prog Tryd.f28 pl28 la28 [(.int .u8 a0_c)] w R E := by kernel_rfl
theorem F28_ok : codeOk Tryd.prog Tryd.f28.ntmps pl28 (bodyOf Tryd.f28) = true := by kernel_rfl
theorem F28_calls (a0_c : Int) {w : World} {R : Value → World → Prop} {E : PanW} (h : F28 a0_c w R E) : Calls Tryd.prog 28 #[(.int .u8 a0_c)] w (endW R E) :=
  calls_of_cfun' (args := [(.int .u8 a0_c)]) mixed Tryd.func28 (by kernel_rfl) F28_ok (by kernel_rfl) (F28_eq a0_c w R E) h

/- 29: tollbridge/tollbridgeref15.end -/
def pl29 : Nat → List Nat × List Nat := fun i => planAt [] i
/- loop over 1 at -/
def an29_0 : Ann := { σ := Int, slots := [1], enc := fun s => [(.int .i64 s)] }
def la29 : List Nat → Option Ann := fun p => annAt [([0, 0, 1], an29_0)] p
def F29 (a0_s : ByteArray) (a1_at_ : Int) (w : World) (R : Value → World → Prop) (E : PanW) : Prop :=
  ∃ (I : (Int) → World → Prop), ∃ (μ : (Int) → World → Nat), (∃ (s : (Int)), (Value.int IntKind.i64 s = Value.int IntKind.i64 a1_at_ ∧ True) ∧ I s w) ∧ ∀ (s : (Int)) (w : World), I s w → ∀ (junk : Env), if Decidable.decide (s < (↑(ByteArray.size a0_s) : Int)) = Bool.true then (0 : Int) ≤ s ∧ s < (↑(ByteArray.size a0_s) : Int) ∧ Calls Tryd.prog (28 : Nat) #[Value.int IntKind.u8 (byteAt a0_s s)] w (endW (fun (v : Value) (w' : World) => ∃ (b : Bool), v = Value.bool b ∧ if b = Bool.false then (0 : Int) ≤ s ∧ s < (↑(ByteArray.size a0_s) : Int) ∧ Calls Tryd.prog (26 : Nat) #[Value.int IntKind.u8 (byteAt a0_s s)] w' (endW (fun (v : Value) (w' : World) => ∃ (b : Bool), v = Value.bool b ∧ if b = Bool.true then ∃ (s' : (Int)), (Value.int IntKind.i64 s' = Value.int IntKind.i64 (IntKind.wrap IntKind.i64 (s + (1 : Int))) ∧ True) ∧ I s' w' ∧ μ s' w' < μ s w else R (Value.int IntKind.i64 s) w') fun (c : List PanicEntry) (w : World) => E c w) else ∃ (s' : (Int)), (Value.int IntKind.i64 s' = Value.int IntKind.i64 (IntKind.wrap IntKind.i64 (s + (1 : Int))) ∧ True) ∧ I s' w' ∧ μ s' w' < μ s w) fun (c : List PanicEntry) (w : World) => E c w) else R (Value.int IntKind.i64 s) w
theorem F29_eq (a0_s : ByteArray) (a1_at_ : Int) (w : World) (R : Value → World → Prop) (E : PanW) : F29 a0_s a1_at_ w R E = cfun Tryd.prog Tryd.f29 pl29 la29 [(.string a0_s), (.int .i64 a1_at_)] w R E := by kernel_rfl
theorem F29_ok : codeOk Tryd.prog Tryd.f29.ntmps pl29 (bodyOf Tryd.f29) = true := by kernel_rfl
theorem F29_calls (a0_s : ByteArray) (a1_at_ : Int) {w : World} {R : Value → World → Prop} {E : PanW} (h : F29 a0_s a1_at_ w R E) : Calls Tryd.prog 29 #[(.string a0_s), (.int .i64 a1_at_)] w (endW R E) :=
  calls_of_cfun' (args := [(.string a0_s), (.int .i64 a1_at_)]) mixed Tryd.func29 (by kernel_rfl) F29_ok (by kernel_rfl) (F29_eq a0_s a1_at_ w R E) h

/- 36: tollbridge/scan.hexadecimal -/
def pl36 : Nat → List Nat × List Nat := fun i => planAt [] i
def la36 : List Nat → Option Ann := fun p => annAt [] p
def F36 (a0_c : Int) (w : World) (R : Value → World → Prop) (E : PanW) : Prop :=
  Calls Tryd.prog (18 : Nat) #[Value.int IntKind.u8 a0_c] w (endW (fun (v : Value) (w' : World) => ∃ (b : Bool), v = Value.bool b ∧ if b = Bool.false then if Decidable.decide (a0_c ≥ (97 : Int)) = Bool.true then if Decidable.decide (a0_c ≤ (102 : Int)) = Bool.false then if Decidable.decide (a0_c ≥ (65 : Int)) = Bool.true then R (Value.bool (Decidable.decide (a0_c ≤ (70 : Int)))) w' else R (Value.bool Bool.false) w' else R (Value.bool Bool.true) w' else if Decidable.decide (a0_c ≥ (65 : Int)) = Bool.true then R (Value.bool (Decidable.decide (a0_c ≤ (70 : Int)))) w' else R (Value.bool Bool.false) w' else R (Value.bool Bool.true) w') fun (c : List PanicEntry) (w : World) => E c w)
theorem F36_eq (a0_c : Int) (w : World) (R : Value → World → Prop) (E : PanW) : F36 a0_c w R E = cfun Tryd.prog Tryd.f36 pl36 la36 [(.int .u8 a0_c)] w R E := by kernel_rfl
theorem F36_ok : codeOk Tryd.prog Tryd.f36.ntmps pl36 (bodyOf Tryd.f36) = true := by kernel_rfl
theorem F36_calls (a0_c : Int) {w : World} {R : Value → World → Prop} {E : PanW} (h : F36 a0_c w R E) : Calls Tryd.prog 36 #[(.int .u8 a0_c)] w (endW R E) :=
  calls_of_cfun' (args := [(.int .u8 a0_c)]) mixed Tryd.func36 (by kernel_rfl) F36_ok (by kernel_rfl) (F36_eq a0_c w R E) h

/- 43: tollbridge/tollbridgeref15.value -/
def pl43 : Nat → List Nat × List Nat := fun i => planAt [] i
def la43 : List Nat → Option Ann := fun p => annAt [] p
def F43 (a0_c : Int) (w : World) (R : Value → World → Prop) (E : PanW) : Prop :=
  Calls Tryd.prog (26 : Nat) #[Value.int IntKind.u8 a0_c] w (endW (fun (v : Value) (w' : World) => ∃ (b : Bool), v = Value.bool b ∧ if b = Bool.true then R (Value.int IntKind.i64 (IntKind.wrap IntKind.i64 (IntKind.wrap IntKind.u8 (a0_c - (48 : Int))))) w' else if Decidable.decide (a0_c ≥ (97 : Int)) = Bool.true then if Decidable.decide (a0_c ≤ (102 : Int)) = Bool.true then R (Value.int IntKind.i64 (IntKind.wrap IntKind.i64 (IntKind.wrap IntKind.i64 (IntKind.wrap IntKind.u8 (a0_c - (97 : Int))) + (10 : Int)))) w' else if Decidable.decide (a0_c ≥ (65 : Int)) = Bool.true then if Decidable.decide (a0_c ≤ (70 : Int)) = Bool.true then R (Value.int IntKind.i64 (IntKind.wrap IntKind.i64 (IntKind.wrap IntKind.i64 (IntKind.wrap IntKind.u8 (a0_c - (65 : Int))) + (10 : Int)))) w' else R (Value.int IntKind.i64 (-1 : Int)) w' else R (Value.int IntKind.i64 (-1 : Int)) w' else if Decidable.decide (a0_c ≥ (65 : Int)) = Bool.true then if Decidable.decide (a0_c ≤ (70 : Int)) = Bool.true then R (Value.int IntKind.i64 (IntKind.wrap IntKind.i64 (IntKind.wrap IntKind.i64 (IntKind.wrap IntKind.u8 (a0_c - (65 : Int))) + (10 : Int)))) w' else R (Value.int IntKind.i64 (-1 : Int)) w' else R (Value.int IntKind.i64 (-1 : Int)) w') fun (c : List PanicEntry) (w : World) => E c w)
theorem F43_eq (a0_c : Int) (w : World) (R : Value → World → Prop) (E : PanW) : F43 a0_c w R E = cfun Tryd.prog Tryd.f43 pl43 la43 [(.int .u8 a0_c)] w R E := by kernel_rfl
theorem F43_ok : codeOk Tryd.prog Tryd.f43.ntmps pl43 (bodyOf Tryd.f43) = true := by kernel_rfl
theorem F43_calls (a0_c : Int) {w : World} {R : Value → World → Prop} {E : PanW} (h : F43 a0_c w R E) : Calls Tryd.prog 43 #[(.int .u8 a0_c)] w (endW R E) :=
  calls_of_cfun' (args := [(.int .u8 a0_c)]) mixed Tryd.func43 (by kernel_rfl) F43_ok (by kernel_rfl) (F43_eq a0_c w R E) h

/- 45: tollbridge/tollbridgeref15.run -/
def pl45 : Nat → List Nat × List Nat := fun i => planAt [] i
/- loop over 5 k -/
def an45_0 : Ann := { σ := Int, slots := [5], enc := fun s => [(.int .i64 s)] }
def la45 : List Nat → Option Ann := fun p => annAt [([0, 0, 1, 1], an45_0)] p
def F45 (a0_s : ByteArray) (a1_at_ : Int) (w : World) (R : Value → World → Prop) (E : PanW) : Prop :=
  ∃ (I : (Int) → World → Prop), ∃ (μ : (Int) → World → Nat), (∃ (s : (Int)), (Value.int IntKind.i64 s = Value.int IntKind.i64 a1_at_ ∧ True) ∧ I s w) ∧ ∀ (s : (Int)) (w : World), I s w → ∀ (junk : Env), if Decidable.decide (s < (↑(ByteArray.size a0_s) : Int)) = Bool.true then (0 : Int) ≤ s ∧ s < (↑(ByteArray.size a0_s) : Int) ∧ Calls Tryd.prog (26 : Nat) #[Value.int IntKind.u8 (byteAt a0_s s)] w (endW (fun (v : Value) (w' : World) => ∃ (b : Bool), v = Value.bool b ∧ if b = Bool.true then ∃ (s' : (Int)), (Value.int IntKind.i64 s' = Value.int IntKind.i64 (IntKind.wrap IntKind.i64 (s + (1 : Int))) ∧ True) ∧ I s' w' ∧ μ s' w' < μ s w else (0 : Int) ≤ s ∧ s ≤ (↑(ByteArray.size a0_s) : Int) ∧ (0 : Int) ≤ a1_at_ ∧ a1_at_ ≤ (↑(Int.toNat s) : Int) ∧ R (Value.string (ByteArray.extract a0_s (Int.toNat a1_at_) (Int.toNat s))) w') fun (c : List PanicEntry) (w : World) => E c w) else (0 : Int) ≤ s ∧ s ≤ (↑(ByteArray.size a0_s) : Int) ∧ (0 : Int) ≤ a1_at_ ∧ a1_at_ ≤ (↑(Int.toNat s) : Int) ∧ R (Value.string (ByteArray.extract a0_s (Int.toNat a1_at_) (Int.toNat s))) w
theorem F45_eq (a0_s : ByteArray) (a1_at_ : Int) (w : World) (R : Value → World → Prop) (E : PanW) : F45 a0_s a1_at_ w R E = cfun Tryd.prog Tryd.f45 pl45 la45 [(.string a0_s), (.int .i64 a1_at_)] w R E := by kernel_rfl
theorem F45_ok : codeOk Tryd.prog Tryd.f45.ntmps pl45 (bodyOf Tryd.f45) = true := by kernel_rfl
theorem F45_calls (a0_s : ByteArray) (a1_at_ : Int) {w : World} {R : Value → World → Prop} {E : PanW} (h : F45 a0_s a1_at_ w R E) : Calls Tryd.prog 45 #[(.string a0_s), (.int .i64 a1_at_)] w (endW R E) :=
  calls_of_cfun' (args := [(.string a0_s), (.int .i64 a1_at_)]) mixed Tryd.func45 (by kernel_rfl) F45_ok (by kernel_rfl) (F45_eq a0_s a1_at_ w R E) h

/- 47: tollbridge/tollbridgeref15.decimal -/
def pl47 : Nat → List Nat × List Nat := fun i => planAt [] i
/- loop over 4 n, 5 i -/
def an47_0 : Ann := { σ := Int × Int, slots := [4, 5], enc := fun s => [(.int .u64 s.1), (.int .i64 s.2)] }
def la47 : List Nat → Option Ann := fun p => annAt [([0, 1, 0, 1, 1], an47_0)] p
def F47 (a0_s : ByteArray) (w : World) (R : Value → World → Prop) (E : PanW) : Prop :=
  ∃ (I : (Int × Int) → World → Prop), ∃ (μ : (Int × Int) → World → Nat), (∃ (s : (Int × Int)), (Value.int IntKind.u64 (Prod.fst s) = Value.int IntKind.u64 (0 : Int) ∧ Value.int IntKind.i64 (Prod.snd s) = Value.int IntKind.i64 (0 : Int) ∧ True) ∧ I s w) ∧ ∀ (s : (Int × Int)) (w : World), I s w → ∀ (junk : Env), if Decidable.decide (Prod.snd s < (↑(ByteArray.size a0_s) : Int)) = Bool.true then (0 : Int) ≤ Prod.snd s ∧ Prod.snd s < (↑(ByteArray.size a0_s) : Int) ∧ (10 : Int) ≠ (0 : Int) ∧ if Decidable.decide (Prod.fst s > IntKind.wrap IntKind.u64 (Int.tdiv (IntKind.wrap IntKind.u64 ((18446744073709551615 : Int) - IntKind.wrap IntKind.u64 (IntKind.wrap IntKind.u8 (byteAt a0_s (Prod.snd s) - (48 : Int))))) (10 : Int))) = Bool.true then R (Value.tuple #[Value.int IntKind.u64 (0 : Int), Value.bool Bool.false]) w else ∃ (s' : (Int × Int)), (Value.int IntKind.u64 (Prod.fst s') = Value.int IntKind.u64 (IntKind.wrap IntKind.u64 (IntKind.wrap IntKind.u64 (Prod.fst s * (10 : Int)) + IntKind.wrap IntKind.u64 (IntKind.wrap IntKind.u8 (byteAt a0_s (Prod.snd s) - (48 : Int))))) ∧ Value.int IntKind.i64 (Prod.snd s') = Value.int IntKind.i64 (IntKind.wrap IntKind.i64 (Prod.snd s + (1 : Int))) ∧ True) ∧ I s' w ∧ μ s' w < μ s w else R (Value.tuple #[Value.int IntKind.u64 (Prod.fst s), Value.bool Bool.true]) w
theorem F47_eq (a0_s : ByteArray) (w : World) (R : Value → World → Prop) (E : PanW) : F47 a0_s w R E = cfun Tryd.prog Tryd.f47 pl47 la47 [(.string a0_s)] w R E := by kernel_rfl
theorem F47_ok : codeOk Tryd.prog Tryd.f47.ntmps pl47 (bodyOf Tryd.f47) = true := by kernel_rfl
theorem F47_calls (a0_s : ByteArray) {w : World} {R : Value → World → Prop} {E : PanW} (h : F47 a0_s w R E) : Calls Tryd.prog 47 #[(.string a0_s)] w (endW R E) :=
  calls_of_cfun' (args := [(.string a0_s)]) mixed Tryd.func47 (by kernel_rfl) F47_ok (by kernel_rfl) (F47_eq a0_s w R E) h

/- 52: internal/strconv.lower -/
def pl52 : Nat → List Nat × List Nat := fun i => planAt [] i
def la52 : List Nat → Option Ann := fun p => annAt [] p
def F52 (a0_c : Int) (w : World) (R : Value → World → Prop) (E : PanW) : Prop :=
  R (Value.int IntKind.u8 (IntKind.wrap IntKind.u8 (↑(BitVec.toNat (BitVec.ofInt (8 : Nat) a0_c ||| BitVec.ofInt (8 : Nat) (32 : Int))) : Int))) w
theorem F52_eq (a0_c : Int) (w : World) (R : Value → World → Prop) (E : PanW) : F52 a0_c w R E = cfun Tryd.prog Tryd.f52 pl52 la52 [(.int .u8 a0_c)] w R E := by kernel_rfl
theorem F52_ok : codeOk Tryd.prog Tryd.f52.ntmps pl52 (bodyOf Tryd.f52) = true := by kernel_rfl
theorem F52_calls (a0_c : Int) {w : World} {R : Value → World → Prop} {E : PanW} (h : F52 a0_c w R E) : Calls Tryd.prog 52 #[(.int .u8 a0_c)] w (endW R E) :=
  calls_of_cfun' (args := [(.int .u8 a0_c)]) mixed Tryd.func52 (by kernel_rfl) F52_ok (by kernel_rfl) (F52_eq a0_c w R E) h

/- 21: (*tollbridge/scan.reader).span -/
def pl21x18 : Nat → List Nat × List Nat := fun i => planAt [] i
/- loop over 1 at -/
def an21x18_0 : Ann := { σ := Int, slots := [1], enc := fun s => [(.int .i64 s)] }
def la21x18 : List Nat → Option Ann := fun p => annAt [([0, 0, 1], an21x18_0)] p
def F21x18 (a0_r : Option Addr) (a1_at_ : Int) (w : World) (R : Value → World → Prop) (E : PanW) : Prop :=
  ∃ (I : (Int) → World → Prop), ∃ (μ : (Int) → World → Nat), (∃ (s : (Int)), (Value.int IntKind.i64 s = Value.int IntKind.i64 a1_at_ ∧ True) ∧ I s w) ∧ ∀ (s : (Int)) (w : World), I s w → ∀ (junk : Env), wSome a0_r fun (A : Addr) => ∃ (s_1 : ByteArray), World.cell? w (addK A (0 : Nat)) = Option.some (Value.string s_1) ∧ if Decidable.decide (s < (↑(ByteArray.size s_1) : Int)) = Bool.true then wSome a0_r fun (A : Addr) => ∃ (s_2 : ByteArray), World.cell? w (addK A (0 : Nat)) = Option.some (Value.string s_2) ∧ (0 : Int) ≤ s ∧ s < (↑(ByteArray.size s_2) : Int) ∧ Calls Tryd.prog (18 : FuncId) #[Value.int IntKind.u8 (byteAt s_2 s)] w (endW (fun (v : Value) (w' : World) => ∃ (b : Bool), v = Value.bool b ∧ if b = Bool.true then ∃ (s' : (Int)), (Value.int IntKind.i64 s' = Value.int IntKind.i64 (IntKind.wrap IntKind.i64 (s + (1 : Int))) ∧ True) ∧ I s' w' ∧ μ s' w' < μ s w else R (Value.int IntKind.i64 s) w') fun (c : List PanicEntry) (w : World) => E c w) else R (Value.int IntKind.i64 s) w
theorem F21x18_eq (a0_r : Option Addr) (a1_at_ : Int) (w : World) (R : Value → World → Prop) (E : PanW) : F21x18 a0_r a1_at_ w R E = cfun Tryd.prog Tryd.f21 pl21x18 la21x18 [(.pointer a0_r), (.int .i64 a1_at_), (.func (.func 18) #[] #[])] w R E := by kernel_rfl
theorem F21x18_ok : codeOk Tryd.prog Tryd.f21.ntmps pl21x18 (bodyOf Tryd.f21) = true := by kernel_rfl
theorem F21x18_calls (a0_r : Option Addr) (a1_at_ : Int) {w : World} {R : Value → World → Prop} {E : PanW} (h : F21x18 a0_r a1_at_ w R E) : Calls Tryd.prog 21 #[(.pointer a0_r), (.int .i64 a1_at_), (.func (.func 18) #[] #[])] w (endW R E) :=
  calls_of_cfun' (args := [(.pointer a0_r), (.int .i64 a1_at_), (.func (.func 18) #[] #[])]) mixed Tryd.func21 (by kernel_rfl) F21x18_ok (by kernel_rfl) (F21x18_eq a0_r a1_at_ w R E) h

/- 21: (*tollbridge/scan.reader).span -/
def pl21x22 : Nat → List Nat × List Nat := fun i => planAt [] i
/- loop over 1 at -/
def an21x22_0 : Ann := { σ := Int, slots := [1], enc := fun s => [(.int .i64 s)] }
def la21x22 : List Nat → Option Ann := fun p => annAt [([0, 0, 1], an21x22_0)] p
def F21x22 (a0_r : Option Addr) (a1_at_ : Int) (w : World) (R : Value → World → Prop) (E : PanW) : Prop :=
  ∃ (I : (Int) → World → Prop), ∃ (μ : (Int) → World → Nat), (∃ (s : (Int)), (Value.int IntKind.i64 s = Value.int IntKind.i64 a1_at_ ∧ True) ∧ I s w) ∧ ∀ (s : (Int)) (w : World), I s w → ∀ (junk : Env), wSome a0_r fun (A : Addr) => ∃ (s_1 : ByteArray), World.cell? w (addK A (0 : Nat)) = Option.some (Value.string s_1) ∧ if Decidable.decide (s < (↑(ByteArray.size s_1) : Int)) = Bool.true then wSome a0_r fun (A : Addr) => ∃ (s_2 : ByteArray), World.cell? w (addK A (0 : Nat)) = Option.some (Value.string s_2) ∧ (0 : Int) ≤ s ∧ s < (↑(ByteArray.size s_2) : Int) ∧ Calls Tryd.prog (22 : FuncId) #[Value.int IntKind.u8 (byteAt s_2 s)] w (endW (fun (v : Value) (w' : World) => ∃ (b : Bool), v = Value.bool b ∧ if b = Bool.true then ∃ (s' : (Int)), (Value.int IntKind.i64 s' = Value.int IntKind.i64 (IntKind.wrap IntKind.i64 (s + (1 : Int))) ∧ True) ∧ I s' w' ∧ μ s' w' < μ s w else R (Value.int IntKind.i64 s) w') fun (c : List PanicEntry) (w : World) => E c w) else R (Value.int IntKind.i64 s) w
theorem F21x22_eq (a0_r : Option Addr) (a1_at_ : Int) (w : World) (R : Value → World → Prop) (E : PanW) : F21x22 a0_r a1_at_ w R E = cfun Tryd.prog Tryd.f21 pl21x22 la21x22 [(.pointer a0_r), (.int .i64 a1_at_), (.func (.func 22) #[] #[])] w R E := by kernel_rfl
theorem F21x22_ok : codeOk Tryd.prog Tryd.f21.ntmps pl21x22 (bodyOf Tryd.f21) = true := by kernel_rfl
theorem F21x22_calls (a0_r : Option Addr) (a1_at_ : Int) {w : World} {R : Value → World → Prop} {E : PanW} (h : F21x22 a0_r a1_at_ w R E) : Calls Tryd.prog 21 #[(.pointer a0_r), (.int .i64 a1_at_), (.func (.func 22) #[] #[])] w (endW R E) :=
  calls_of_cfun' (args := [(.pointer a0_r), (.int .i64 a1_at_), (.func (.func 22) #[] #[])]) mixed Tryd.func21 (by kernel_rfl) F21x22_ok (by kernel_rfl) (F21x22_eq a0_r a1_at_ w R E) h

/- 21: (*tollbridge/scan.reader).span -/
def pl21x36 : Nat → List Nat × List Nat := fun i => planAt [] i
/- loop over 1 at -/
def an21x36_0 : Ann := { σ := Int, slots := [1], enc := fun s => [(.int .i64 s)] }
def la21x36 : List Nat → Option Ann := fun p => annAt [([0, 0, 1], an21x36_0)] p
def F21x36 (a0_r : Option Addr) (a1_at_ : Int) (w : World) (R : Value → World → Prop) (E : PanW) : Prop :=
  ∃ (I : (Int) → World → Prop), ∃ (μ : (Int) → World → Nat), (∃ (s : (Int)), (Value.int IntKind.i64 s = Value.int IntKind.i64 a1_at_ ∧ True) ∧ I s w) ∧ ∀ (s : (Int)) (w : World), I s w → ∀ (junk : Env), wSome a0_r fun (A : Addr) => ∃ (s_1 : ByteArray), World.cell? w (addK A (0 : Nat)) = Option.some (Value.string s_1) ∧ if Decidable.decide (s < (↑(ByteArray.size s_1) : Int)) = Bool.true then wSome a0_r fun (A : Addr) => ∃ (s_2 : ByteArray), World.cell? w (addK A (0 : Nat)) = Option.some (Value.string s_2) ∧ (0 : Int) ≤ s ∧ s < (↑(ByteArray.size s_2) : Int) ∧ Calls Tryd.prog (36 : FuncId) #[Value.int IntKind.u8 (byteAt s_2 s)] w (endW (fun (v : Value) (w' : World) => ∃ (b : Bool), v = Value.bool b ∧ if b = Bool.true then ∃ (s' : (Int)), (Value.int IntKind.i64 s' = Value.int IntKind.i64 (IntKind.wrap IntKind.i64 (s + (1 : Int))) ∧ True) ∧ I s' w' ∧ μ s' w' < μ s w else R (Value.int IntKind.i64 s) w') fun (c : List PanicEntry) (w : World) => E c w) else R (Value.int IntKind.i64 s) w
theorem F21x36_eq (a0_r : Option Addr) (a1_at_ : Int) (w : World) (R : Value → World → Prop) (E : PanW) : F21x36 a0_r a1_at_ w R E = cfun Tryd.prog Tryd.f21 pl21x36 la21x36 [(.pointer a0_r), (.int .i64 a1_at_), (.func (.func 36) #[] #[])] w R E := by kernel_rfl
theorem F21x36_ok : codeOk Tryd.prog Tryd.f21.ntmps pl21x36 (bodyOf Tryd.f21) = true := by kernel_rfl
theorem F21x36_calls (a0_r : Option Addr) (a1_at_ : Int) {w : World} {R : Value → World → Prop} {E : PanW} (h : F21x36 a0_r a1_at_ w R E) : Calls Tryd.prog 21 #[(.pointer a0_r), (.int .i64 a1_at_), (.func (.func 36) #[] #[])] w (endW R E) :=
  calls_of_cfun' (args := [(.pointer a0_r), (.int .i64 a1_at_), (.func (.func 36) #[] #[])]) mixed Tryd.func21 (by kernel_rfl) F21x36_ok (by kernel_rfl) (F21x36_eq a0_r a1_at_ w R E) h

end Go.Proofs.YthifnahfcbgnoaaDoor.B
