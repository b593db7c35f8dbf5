/- What functions of this translation do, in a clean form; each text is tied to the translation by the kernel. -/
import Derived.Test.YtgoanblnkdihfaaGreatDoorEngM
import Derived.Test.YtgoanblnkdihfaaGreatDoorProg
set_option maxHeartbeats 400000
set_option maxRecDepth 1000000
set_option linter.unusedVariables false
namespace Go.Proofs.YtgoanblnkdihfaaGreatDoor.B
open Go Go.Proofs Go.Proofs.YtgoanblnkdihfaaGreatDoorEng
open Go.Value (int)
theorem mixed : Tryz.prog.follows .mixedOrders = true := by kernel_rfl
/- 44: tollbridge/scan.digit -/
def pl44 : Nat → List Nat × List Nat := fun i => planAt [] i
def la44 : List Nat → Option Ann := fun p => annAt [] p
def F44 (a0_c : Int) (w : World) (R : Value → World → Prop) (E : PanW) : Prop :=
  if decide (a0_c ≥ (48 : Int)) = true then R (Value.bool (decide (a0_c ≤ (57 : Int)))) w else R (Value.bool false) w
theorem F44_eq (a0_c : Int) (w : World) (R : Value → World → Prop) (E : PanW) : F44 a0_c w R E = cfun Tryz.prog Tryz.f44 pl44 la44 [(.int .u8 a0_c)] w R E := by kernel_rfl
theorem F44_ok : codeOk Tryz.prog Tryz.f44.ntmps pl44 (bodyOf Tryz.f44) = true := by kernel_rfl
theorem F44_calls (a0_c : Int) {w : World} {R : Value → World → Prop} {E : PanW} (h : F44 a0_c w R E) : Calls Tryz.prog 44 #[(.int .u8 a0_c)] w (endW R E) :=
  calls_of_cfun' (args := [(.int .u8 a0_c)]) mixed Tryz.func44 (by kernel_rfl) F44_ok (by kernel_rfl) (F44_eq a0_c w R E) h

/- 46: tollbridge/scan.letter -/
def pl46 : Nat → List Nat × List Nat := fun i => planAt [] i
def la46 : List Nat → Option Ann := fun p => annAt [] p
def F46 (a0_c : Int) (w : World) (R : Value → World → Prop) (E : PanW) : Prop :=
  if decide (a0_c ≥ (65 : Int)) = true then if decide (a0_c ≤ (90 : Int)) = false then if decide (a0_c ≥ (97 : Int)) = true then if decide (a0_c ≤ (122 : Int)) = false then R (Value.bool (a0_c == (95 : Int))) w else R (Value.bool true) w else R (Value.bool (a0_c == (95 : Int))) w else R (Value.bool true) w else if decide (a0_c ≥ (97 : Int)) = true then if decide (a0_c ≤ (122 : Int)) = false then R (Value.bool (a0_c == (95 : Int))) w else R (Value.bool true) w else R (Value.bool (a0_c == (95 : Int))) w
theorem F46_eq (a0_c : Int) (w : World) (R : Value → World → Prop) (E : PanW) : F46 a0_c w R E = cfun Tryz.prog Tryz.f46 pl46 la46 [(.int .u8 a0_c)] w R E := by kernel_rfl
theorem F46_ok : codeOk Tryz.prog Tryz.f46.ntmps pl46 (bodyOf Tryz.f46) = true := by kernel_rfl
theorem F46_calls (a0_c : Int) {w : World} {R : Value → World → Prop} {E : PanW} (h : F46 a0_c w R E) : Calls Tryz.prog 46 #[(.int .u8 a0_c)] w (endW R E) :=
  calls_of_cfun' (args := [(.int .u8 a0_c)]) mixed Tryz.func46 (by kernel_rfl) F46_ok (by kernel_rfl) (F46_eq a0_c w R E) h

/- 48: (*tollbridge/scan.reader).word$1 -/
def pl48 : Nat → List Nat × List Nat := fun i => planAt [] i
def la48 : List Nat → Option Ann := fun p => annAt [] p
def F48 (a0_c : Int) (w : World) (R : Value → World → Prop) (E : PanW) : Prop :=
  Calls Tryz.prog (46 : Nat) #[int .u8 a0_c] w (endW (fun v w' => ∃ (b : Bool), v = Value.bool b ∧ if b = false then Calls Tryz.prog (44 : Nat) #[int .u8 a0_c] w' (endW (fun v w' => ∃ (b : Bool), v = Value.bool b ∧ R (Value.bool b) w') fun c w => E c w) else R (Value.bool true) w') fun c w => E c w)
theorem F48_eq (a0_c : Int) (w : World) (R : Value → World → Prop) (E : PanW) : F48 a0_c w R E = cfun Tryz.prog Tryz.f48 pl48 la48 [(.int .u8 a0_c)] w R E := by kernel_rfl
theorem F48_ok : codeOk Tryz.prog Tryz.f48.ntmps pl48 (bodyOf Tryz.f48) = true := by kernel_rfl
theorem F48_calls (a0_c : Int) {w : World} {R : Value → World → Prop} {E : PanW} (h : F48 a0_c w R E) : Calls Tryz.prog 48 #[(.int .u8 a0_c)] w (endW R E) :=
  calls_of_cfun' (args := [(.int .u8 a0_c)]) mixed Tryz.func48 (by kernel_rfl) F48_ok (by kernel_rfl) (F48_eq a0_c w R E) h

/- 50: (*tollbridge/scan.reader).is -/
def pl50 : Nat → List Nat × List Nat := fun i => planAt [] i
def la50 : List Nat → Option Ann := fun p => annAt [] p
def F50 (a0_r : Option Addr) (a1_at_ : Int) (a2_c : Int) (w : World) (R : Value → World → Prop) (E : PanW) : Prop :=
  wSome a0_r fun (A : Addr) => ∃ s, w.cell? (addK A (0 : Nat)) = some (Value.string s) ∧ if decide (a1_at_ < (↑(ByteArray.size s) : Int)) = true then wSome a0_r fun (A : Addr) => ∃ s, w.cell? (addK A (0 : Nat)) = some (Value.string s) ∧ (0 : Int) ≤ a1_at_ ∧ a1_at_ < (↑(ByteArray.size s) : Int) ∧ R (Value.bool (byteAt s a1_at_ == a2_c)) w else R (Value.bool false) w
theorem F50_eq (a0_r : Option Addr) (a1_at_ : Int) (a2_c : Int) (w : World) (R : Value → World → Prop) (E : PanW) : F50 a0_r a1_at_ a2_c w R E = cfun Tryz.prog Tryz.f50 pl50 la50 [(.pointer a0_r), (.int .i64 a1_at_), (.int .u8 a2_c)] w R E := by kernel_rfl
theorem F50_ok : codeOk Tryz.prog Tryz.f50.ntmps pl50 (bodyOf Tryz.f50) = true := by kernel_rfl
theorem F50_calls (a0_r : Option Addr) (a1_at_ : Int) (a2_c : Int) {w : World} {R : Value → World → Prop} {E : PanW} (h : F50 a0_r a1_at_ a2_c w R E) : Calls Tryz.prog 50 #[(.pointer a0_r), (.int .i64 a1_at_), (.int .u8 a2_c)] w (endW R E) :=
  calls_of_cfun' (args := [(.pointer a0_r), (.int .i64 a1_at_), (.int .u8 a2_c)]) mixed Tryz.func50 (by kernel_rfl) F50_ok (by kernel_rfl) (F50_eq a0_r a1_at_ a2_c w R E) h

/- 49: (*tollbridge/scan.reader).wrong -/
def pl49 : Nat → List Nat × List Nat := fun i => planAt [(1, [0, 1, 2, 3, 5, 6, 7, 9, 10, 11, 13, 4, 8, 12, 14, 15, 16, 17], [16])] i
def la49 : List Nat → Option Ann := fun p => annAt [] p
def F49 (a0_r : Option Addr) (a1_e : Int) (a2_end_ : Int) (w : World) (R : Value → World → Prop) (E : PanW) : Prop :=
  wSome a0_r fun (A : Addr) => wSome a0_r fun (A_1 : Addr) => wSome a0_r fun (A_2 : Addr) => ∃ x, w.drew.cell? (addK A (1 : Nat)) = some (int .i64 x) ∧ ∃ s, w.drew.cell? (addK A_1 (0 : Nat)) = some (Value.string s) ∧ ∃ x_1, w.drew.cell? (addK A_2 (1 : Nat)) = some (int .i64 x_1) ∧ (0 : Int) ≤ a2_end_ ∧ a2_end_ ≤ (↑(ByteArray.size s) : Int) ∧ (0 : Int) ≤ x_1 ∧ x_1 ≤ (↑(Int.toNat a2_end_) : Int) ∧ R (Value.pointer (some ⟨w.drew.heap.size, 0, none⟩)) (World.alloc w.drew (Obj.cells #[int .i64 a1_e, int .i64 x, Value.string (ByteArray.extract s (Int.toNat x_1) (Int.toNat a2_end_))] (68 : Nat)))
theorem F49_eq (a0_r : Option Addr) (a1_e : Int) (a2_end_ : Int) (w : World) (R : Value → World → Prop) (E : PanW) : F49 a0_r a1_e a2_end_ w R E = cfun Tryz.prog Tryz.f49 pl49 la49 [(.pointer a0_r), (.int .i64 a1_e), (.int .i64 a2_end_)] w R E := by kernel_rfl
theorem F49_ok : codeOk Tryz.prog Tryz.f49.ntmps pl49 (bodyOf Tryz.f49) = true := by kernel_rfl
theorem F49_calls (a0_r : Option Addr) (a1_e : Int) (a2_end_ : Int) {w : World} {R : Value → World → Prop} {E : PanW} (h : F49 a0_r a1_e a2_end_ w R E) : Calls Tryz.prog 49 #[(.pointer a0_r), (.int .i64 a1_e), (.int .i64 a2_end_)] w (endW R E) :=
  calls_of_cfun' (args := [(.pointer a0_r), (.int .i64 a1_e), (.int .i64 a2_end_)]) mixed Tryz.func49 (by kernel_rfl) F49_ok (by kernel_rfl) (F49_eq a0_r a1_e a2_end_ w R E) h

/- 33: tollbridge/tollbridgeref15.digit -/
def pl33 : Nat → List Nat × List Nat := fun i => planAt [] i
def la33 : List Nat → Option Ann := fun p => annAt [] p
def F33 (a0_c : Int) (w : World) (R : Value → World → Prop) (E : PanW) : Prop :=
  if decide (a0_c ≥ (48 : Int)) = true then R (Value.bool (decide (a0_c ≤ (57 : Int)))) w else R (Value.bool false) w
theorem F33_eq (a0_c : Int) (w : World) (R : Value → World → Prop) (E : PanW) : F33 a0_c w R E = cfun Tryz.prog Tryz.f33 pl33 la33 [(.int .u8 a0_c)] w R E := by kernel_rfl
theorem F33_ok : codeOk Tryz.prog Tryz.f33.ntmps pl33 (bodyOf Tryz.f33) = true := by kernel_rfl
theorem F33_calls (a0_c : Int) {w : World} {R : Value → World → Prop} {E : PanW} (h : F33 a0_c w R E) : Calls Tryz.prog 33 #[(.int .u8 a0_c)] w (endW R E) :=
  calls_of_cfun' (args := [(.int .u8 a0_c)]) mixed Tryz.func33 (by kernel_rfl) F33_ok (by kernel_rfl) (F33_eq a0_c w R E) h

/- 35: tollbridge/tollbridgeref15.letter -/
def pl35 : Nat → List Nat × List Nat := fun i => planAt [] i
def la35 : List Nat → Option Ann := fun p => annAt [] p
def F35 (a0_c : Int) (w : World) (R : Value → World → Prop) (E : PanW) : Prop :=
  if decide (a0_c ≥ (65 : Int)) = true then if decide (a0_c ≤ (90 : Int)) = false then if decide (a0_c ≥ (97 : Int)) = true then if decide (a0_c ≤ (122 : Int)) = false then R (Value.bool (a0_c == (95 : Int))) w else R (Value.bool true) w else R (Value.bool (a0_c == (95 : Int))) w else R (Value.bool true) w else if decide (a0_c ≥ (97 : Int)) = true then if decide (a0_c ≤ (122 : Int)) = false then R (Value.bool (a0_c == (95 : Int))) w else R (Value.bool true) w else R (Value.bool (a0_c == (95 : Int))) w
theorem F35_eq (a0_c : Int) (w : World) (R : Value → World → Prop) (E : PanW) : F35 a0_c w R E = cfun Tryz.prog Tryz.f35 pl35 la35 [(.int .u8 a0_c)] w R E := by kernel_rfl
theorem F35_ok : codeOk Tryz.prog Tryz.f35.ntmps pl35 (bodyOf Tryz.f35) = true := by kernel_rfl
theorem F35_calls (a0_c : Int) {w : World} {R : Value → World → Prop} {E : PanW} (h : F35 a0_c w R E) : Calls Tryz.prog 35 #[(.int .u8 a0_c)] w (endW R E) :=
  calls_of_cfun' (args := [(.int .u8 a0_c)]) mixed Tryz.func35 (by kernel_rfl) F35_ok (by kernel_rfl) (F35_eq a0_c w R E) h

/- 36: tollbridge/tollbridgeref15.end -/
def pl36 : Nat → List Nat × List Nat := fun i => planAt [] i
/- loop over 1 at -/
def an36_0 : Ann := { σ := Int, slots := [1], enc := fun s => [(.int .i64 s)] }
def la36 : List Nat → Option Ann := fun p => annAt [([0, 0, 1], an36_0)] p
def F36 (a0_s : ByteArray) (a1_at_ : Int) (w : World) (R : Value → World → Prop) (E : PanW) : Prop :=
  ∃ (I : (Int) → World → Prop), ∃ (μ : (Int) → World → Nat), (∃ (s : (Int)), (int .i64 s = int .i64 a1_at_ ∧ True) ∧ I s w) ∧ ∀ (s : (Int)) (w : World), I s w → ∀ (junk : Env), if decide (s < (↑(ByteArray.size a0_s) : Int)) = true then (0 : Int) ≤ s ∧ s < (↑(ByteArray.size a0_s) : Int) ∧ Calls Tryz.prog (35 : Nat) #[int .u8 (byteAt a0_s s)] w (endW (fun v w' => ∃ (b : Bool), v = Value.bool b ∧ if b = false then (0 : Int) ≤ s ∧ s < (↑(ByteArray.size a0_s) : Int) ∧ Calls Tryz.prog (33 : Nat) #[int .u8 (byteAt a0_s s)] w' (endW (fun v w' => ∃ (b : Bool), v = Value.bool b ∧ if b = true then ∃ (s' : (Int)), (int .i64 s' = int .i64 (IntKind.wrap IntKind.i64 (s + (1 : Int))) ∧ True) ∧ I s' w' ∧ μ s' w' < μ s w else R (int .i64 s) w') fun c w => E c w) else ∃ (s' : (Int)), (int .i64 s' = int .i64 (IntKind.wrap IntKind.i64 (s + (1 : Int))) ∧ True) ∧ I s' w' ∧ μ s' w' < μ s w) fun c w => E c w) else R (int .i64 s) w
theorem F36_eq (a0_s : ByteArray) (a1_at_ : Int) (w : World) (R : Value → World → Prop) (E : PanW) : F36 a0_s a1_at_ w R E = cfun Tryz.prog Tryz.f36 pl36 la36 [(.string a0_s), (.int .i64 a1_at_)] w R E := by kernel_rfl
theorem F36_ok : codeOk Tryz.prog Tryz.f36.ntmps pl36 (bodyOf Tryz.f36) = true := by kernel_rfl
theorem F36_calls (a0_s : ByteArray) (a1_at_ : Int) {w : World} {R : Value → World → Prop} {E : PanW} (h : F36 a0_s a1_at_ w R E) : Calls Tryz.prog 36 #[(.string a0_s), (.int .i64 a1_at_)] w (endW R E) :=
  calls_of_cfun' (args := [(.string a0_s), (.int .i64 a1_at_)]) mixed Tryz.func36 (by kernel_rfl) F36_ok (by kernel_rfl) (F36_eq a0_s a1_at_ w R E) h

/- 60: tollbridge/scan.hexadecimal -/
def pl60 : Nat → List Nat × List Nat := fun i => planAt [] i
def la60 : List Nat → Option Ann := fun p => annAt [] p
def F60 (a0_c : Int) (w : World) (R : Value → World → Prop) (E : PanW) : Prop :=
  Calls Tryz.prog (44 : Nat) #[int .u8 a0_c] w (endW (fun v w' => ∃ (b : Bool), v = Value.bool b ∧ if b = false then if decide (a0_c ≥ (97 : Int)) = true then if decide (a0_c ≤ (102 : Int)) = false then if decide (a0_c ≥ (65 : Int)) = true then R (Value.bool (decide (a0_c ≤ (70 : Int)))) w' else R (Value.bool false) w' else R (Value.bool true) w' else if decide (a0_c ≥ (65 : Int)) = true then R (Value.bool (decide (a0_c ≤ (70 : Int)))) w' else R (Value.bool false) w' else R (Value.bool true) w') fun c w => E c w)
theorem F60_eq (a0_c : Int) (w : World) (R : Value → World → Prop) (E : PanW) : F60 a0_c w R E = cfun Tryz.prog Tryz.f60 pl60 la60 [(.int .u8 a0_c)] w R E := by kernel_rfl
theorem F60_ok : codeOk Tryz.prog Tryz.f60.ntmps pl60 (bodyOf Tryz.f60) = true := by kernel_rfl
theorem F60_calls (a0_c : Int) {w : World} {R : Value → World → Prop} {E : PanW} (h : F60 a0_c w R E) : Calls Tryz.prog 60 #[(.int .u8 a0_c)] w (endW R E) :=
  calls_of_cfun' (args := [(.int .u8 a0_c)]) mixed Tryz.func60 (by kernel_rfl) F60_ok (by kernel_rfl) (F60_eq a0_c w R E) h

/- 53: tollbridge/tollbridgeref15.value -/
def pl53 : Nat → List Nat × List Nat := fun i => planAt [] i
def la53 : List Nat → Option Ann := fun p => annAt [] p
def F53 (a0_c : Int) (w : World) (R : Value → World → Prop) (E : PanW) : Prop :=
  Calls Tryz.prog (33 : Nat) #[int .u8 a0_c] w (endW (fun v w' => ∃ (b : Bool), v = Value.bool b ∧ if b = true then R (int .i64 (IntKind.wrap IntKind.i64 (IntKind.wrap IntKind.u8 (a0_c - (48 : Int))))) w' else if decide (a0_c ≥ (97 : Int)) = true then if decide (a0_c ≤ (102 : Int)) = true then R (int .i64 (IntKind.wrap IntKind.i64 (IntKind.wrap IntKind.i64 (IntKind.wrap IntKind.u8 (a0_c - (97 : Int))) + (10 : Int)))) w' else if decide (a0_c ≥ (65 : Int)) = true then if decide (a0_c ≤ (70 : Int)) = true then R (int .i64 (IntKind.wrap IntKind.i64 (IntKind.wrap IntKind.i64 (IntKind.wrap IntKind.u8 (a0_c - (65 : Int))) + (10 : Int)))) w' else R (int .i64 (-1 : Int)) w' else R (int .i64 (-1 : Int)) w' else if decide (a0_c ≥ (65 : Int)) = true then if decide (a0_c ≤ (70 : Int)) = true then R (int .i64 (IntKind.wrap IntKind.i64 (IntKind.wrap IntKind.i64 (IntKind.wrap IntKind.u8 (a0_c - (65 : Int))) + (10 : Int)))) w' else R (int .i64 (-1 : Int)) w' else R (int .i64 (-1 : Int)) w') fun c w => E c w)
theorem F53_eq (a0_c : Int) (w : World) (R : Value → World → Prop) (E : PanW) : F53 a0_c w R E = cfun Tryz.prog Tryz.f53 pl53 la53 [(.int .u8 a0_c)] w R E := by kernel_rfl
theorem F53_ok : codeOk Tryz.prog Tryz.f53.ntmps pl53 (bodyOf Tryz.f53) = true := by kernel_rfl
theorem F53_calls (a0_c : Int) {w : World} {R : Value → World → Prop} {E : PanW} (h : F53 a0_c w R E) : Calls Tryz.prog 53 #[(.int .u8 a0_c)] w (endW R E) :=
  calls_of_cfun' (args := [(.int .u8 a0_c)]) mixed Tryz.func53 (by kernel_rfl) F53_ok (by kernel_rfl) (F53_eq a0_c w R E) h

/- 55: tollbridge/tollbridgeref15.run -/
def pl55 : Nat → List Nat × List Nat := fun i => planAt [] i
/- loop over 5 k -/
def an55_0 : Ann := { σ := Int, slots := [5], enc := fun s => [(.int .i64 s)] }
def la55 : List Nat → Option Ann := fun p => annAt [([0, 0, 1, 1], an55_0)] p
def F55 (a0_s : ByteArray) (a1_at_ : Int) (w : World) (R : Value → World → Prop) (E : PanW) : Prop :=
  ∃ (I : (Int) → World → Prop), ∃ (μ : (Int) → World → Nat), (∃ (s : (Int)), (int .i64 s = int .i64 a1_at_ ∧ True) ∧ I s w) ∧ ∀ (s : (Int)) (w : World), I s w → ∀ (junk : Env), if decide (s < (↑(ByteArray.size a0_s) : Int)) = true then (0 : Int) ≤ s ∧ s < (↑(ByteArray.size a0_s) : Int) ∧ Calls Tryz.prog (33 : Nat) #[int .u8 (byteAt a0_s s)] w (endW (fun v w' => ∃ (b : Bool), v = Value.bool b ∧ if b = true then ∃ (s' : (Int)), (int .i64 s' = int .i64 (IntKind.wrap IntKind.i64 (s + (1 : Int))) ∧ True) ∧ I s' w' ∧ μ s' w' < μ s w else (0 : Int) ≤ s ∧ s ≤ (↑(ByteArray.size a0_s) : Int) ∧ (0 : Int) ≤ a1_at_ ∧ a1_at_ ≤ (↑(Int.toNat s) : Int) ∧ R (Value.string (ByteArray.extract a0_s (Int.toNat a1_at_) (Int.toNat s))) w') fun c w => E c w) else (0 : Int) ≤ s ∧ s ≤ (↑(ByteArray.size a0_s) : Int) ∧ (0 : Int) ≤ a1_at_ ∧ a1_at_ ≤ (↑(Int.toNat s) : Int) ∧ R (Value.string (ByteArray.extract a0_s (Int.toNat a1_at_) (Int.toNat s))) w
theorem F55_eq (a0_s : ByteArray) (a1_at_ : Int) (w : World) (R : Value → World → Prop) (E : PanW) : F55 a0_s a1_at_ w R E = cfun Tryz.prog Tryz.f55 pl55 la55 [(.string a0_s), (.int .i64 a1_at_)] w R E := by kernel_rfl
theorem F55_ok : codeOk Tryz.prog Tryz.f55.ntmps pl55 (bodyOf Tryz.f55) = true := by kernel_rfl
theorem F55_calls (a0_s : ByteArray) (a1_at_ : Int) {w : World} {R : Value → World → Prop} {E : PanW} (h : F55 a0_s a1_at_ w R E) : Calls Tryz.prog 55 #[(.string a0_s), (.int .i64 a1_at_)] w (endW R E) :=
  calls_of_cfun' (args := [(.string a0_s), (.int .i64 a1_at_)]) mixed Tryz.func55 (by kernel_rfl) F55_ok (by kernel_rfl) (F55_eq a0_s a1_at_ w R E) h

/- 57: tollbridge/tollbridgeref15.decimal -/
def pl57 : Nat → List Nat × List Nat := fun i => planAt [] i
/- loop over 4 n, 5 i -/
def an57_0 : Ann := { σ := Int × Int, slots := [4, 5], enc := fun s => [(.int .u64 s.1), (.int .i64 s.2)] }
def la57 : List Nat → Option Ann := fun p => annAt [([0, 1, 0, 1, 1], an57_0)] p
def F57 (a0_s : ByteArray) (w : World) (R : Value → World → Prop) (E : PanW) : Prop :=
  ∃ (I : (Int × Int) → World → Prop), ∃ (μ : (Int × Int) → World → Nat), (∃ (s : (Int × Int)), (int .u64 s.1 = int .u64 (0 : Int) ∧ int .i64 s.2 = int .i64 (0 : Int) ∧ True) ∧ I s w) ∧ ∀ (s : (Int × Int)) (w : World), I s w → ∀ (junk : Env), if decide (s.2 < (↑(ByteArray.size a0_s) : Int)) = true then (0 : Int) ≤ s.2 ∧ s.2 < (↑(ByteArray.size a0_s) : Int) ∧ (10 : Int) ≠ (0 : Int) ∧ if decide (s.1 > IntKind.wrap IntKind.u64 (Int.tdiv (IntKind.wrap IntKind.u64 ((18446744073709551615 : Int) - IntKind.wrap IntKind.u64 (IntKind.wrap IntKind.u8 (byteAt a0_s s.2 - (48 : Int))))) (10 : Int))) = true then R (Value.tuple #[int .u64 (0 : Int), Value.bool false]) w else ∃ (s' : (Int × Int)), (int .u64 s'.1 = int .u64 (IntKind.wrap IntKind.u64 (IntKind.wrap IntKind.u64 (s.1 * (10 : Int)) + IntKind.wrap IntKind.u64 (IntKind.wrap IntKind.u8 (byteAt a0_s s.2 - (48 : Int))))) ∧ int .i64 s'.2 = int .i64 (IntKind.wrap IntKind.i64 (s.2 + (1 : Int))) ∧ True) ∧ I s' w ∧ μ s' w < μ s w else R (Value.tuple #[int .u64 s.1, Value.bool true]) w
theorem F57_eq (a0_s : ByteArray) (w : World) (R : Value → World → Prop) (E : PanW) : F57 a0_s w R E = cfun Tryz.prog Tryz.f57 pl57 la57 [(.string a0_s)] w R E := by kernel_rfl
theorem F57_ok : codeOk Tryz.prog Tryz.f57.ntmps pl57 (bodyOf Tryz.f57) = true := by kernel_rfl
theorem F57_calls (a0_s : ByteArray) {w : World} {R : Value → World → Prop} {E : PanW} (h : F57 a0_s w R E) : Calls Tryz.prog 57 #[(.string a0_s)] w (endW R E) :=
  calls_of_cfun' (args := [(.string a0_s)]) mixed Tryz.func57 (by kernel_rfl) F57_ok (by kernel_rfl) (F57_eq a0_s w R E) h

/- 74: internal/strconv.lower -/
def pl74 : Nat → List Nat × List Nat := fun i => planAt [] i
def la74 : List Nat → Option Ann := fun p => annAt [] p
def F74 (a0_c : Int) (w : World) (R : Value → World → Prop) (E : PanW) : Prop :=
  R (int .u8 (IntKind.wrap IntKind.u8 (↑(BitVec.toNat (BitVec.ofInt (8 : Nat) a0_c ||| BitVec.ofInt (8 : Nat) (32 : Int))) : Int))) w
theorem F74_eq (a0_c : Int) (w : World) (R : Value → World → Prop) (E : PanW) : F74 a0_c w R E = cfun Tryz.prog Tryz.f74 pl74 la74 [(.int .u8 a0_c)] w R E := by kernel_rfl
theorem F74_ok : codeOk Tryz.prog Tryz.f74.ntmps pl74 (bodyOf Tryz.f74) = true := by kernel_rfl
theorem F74_calls (a0_c : Int) {w : World} {R : Value → World → Prop} {E : PanW} (h : F74 a0_c w R E) : Calls Tryz.prog 74 #[(.int .u8 a0_c)] w (endW R E) :=
  calls_of_cfun' (args := [(.int .u8 a0_c)]) mixed Tryz.func74 (by kernel_rfl) F74_ok (by kernel_rfl) (F74_eq a0_c w R E) h

/- 47: (*tollbridge/scan.reader).span -/
def pl47x44 : Nat → List Nat × List Nat := fun i => planAt [] i
/- loop over 1 at -/
def an47x44_0 : Ann := { σ := Int, slots := [1], enc := fun s => [(.int .i64 s)] }
def la47x44 : List Nat → Option Ann := fun p => annAt [([0, 0, 1], an47x44_0)] p
def F47x44 (a0_r : Option Addr) (a1_at_ : Int) (w : World) (R : Value → World → Prop) (E : PanW) : Prop :=
  ∃ (I : (Int) → World → Prop), ∃ (μ : (Int) → World → Nat), (∃ (s : (Int)), (int .i64 s = int .i64 a1_at_ ∧ True) ∧ I s w) ∧ ∀ (s : (Int)) (w : World), I s w → ∀ (junk : Env), wSome a0_r fun (A : Addr) => ∃ s_1, w.cell? (addK A (0 : Nat)) = some (Value.string s_1) ∧ if decide (s < (↑(ByteArray.size s_1) : Int)) = true then wSome a0_r fun (A : Addr) => ∃ s_2, w.cell? (addK A (0 : Nat)) = some (Value.string s_2) ∧ (0 : Int) ≤ s ∧ s < (↑(ByteArray.size s_2) : Int) ∧ Calls Tryz.prog (44 : FuncId) #[int .u8 (byteAt s_2 s)] w (endW (fun v w' => ∃ (b : Bool), v = Value.bool b ∧ if b = true then ∃ (s' : (Int)), (int .i64 s' = int .i64 (IntKind.wrap IntKind.i64 (s + (1 : Int))) ∧ True) ∧ I s' w' ∧ μ s' w' < μ s w else R (int .i64 s) w') fun c w => E c w) else R (int .i64 s) w
theorem F47x44_eq (a0_r : Option Addr) (a1_at_ : Int) (w : World) (R : Value → World → Prop) (E : PanW) : F47x44 a0_r a1_at_ w R E = cfun Tryz.prog Tryz.f47 pl47x44 la47x44 [(.pointer a0_r), (.int .i64 a1_at_), (.func (.func 44) #[] #[])] w R E := by kernel_rfl
theorem F47x44_ok : codeOk Tryz.prog Tryz.f47.ntmps pl47x44 (bodyOf Tryz.f47) = true := by kernel_rfl
theorem F47x44_calls (a0_r : Option Addr) (a1_at_ : Int) {w : World} {R : Value → World → Prop} {E : PanW} (h : F47x44 a0_r a1_at_ w R E) : Calls Tryz.prog 47 #[(.pointer a0_r), (.int .i64 a1_at_), (.func (.func 44) #[] #[])] w (endW R E) :=
  calls_of_cfun' (args := [(.pointer a0_r), (.int .i64 a1_at_), (.func (.func 44) #[] #[])]) mixed Tryz.func47 (by kernel_rfl) F47x44_ok (by kernel_rfl) (F47x44_eq a0_r a1_at_ w R E) h

/- 47: (*tollbridge/scan.reader).span -/
def pl47x48 : Nat → List Nat × List Nat := fun i => planAt [] i
/- loop over 1 at -/
def an47x48_0 : Ann := { σ := Int, slots := [1], enc := fun s => [(.int .i64 s)] }
def la47x48 : List Nat → Option Ann := fun p => annAt [([0, 0, 1], an47x48_0)] p
def F47x48 (a0_r : Option Addr) (a1_at_ : Int) (w : World) (R : Value → World → Prop) (E : PanW) : Prop :=
  ∃ (I : (Int) → World → Prop), ∃ (μ : (Int) → World → Nat), (∃ (s : (Int)), (int .i64 s = int .i64 a1_at_ ∧ True) ∧ I s w) ∧ ∀ (s : (Int)) (w : World), I s w → ∀ (junk : Env), wSome a0_r fun (A : Addr) => ∃ s_1, w.cell? (addK A (0 : Nat)) = some (Value.string s_1) ∧ if decide (s < (↑(ByteArray.size s_1) : Int)) = true then wSome a0_r fun (A : Addr) => ∃ s_2, w.cell? (addK A (0 : Nat)) = some (Value.string s_2) ∧ (0 : Int) ≤ s ∧ s < (↑(ByteArray.size s_2) : Int) ∧ Calls Tryz.prog (48 : FuncId) #[int .u8 (byteAt s_2 s)] w (endW (fun v w' => ∃ (b : Bool), v = Value.bool b ∧ if b = true then ∃ (s' : (Int)), (int .i64 s' = int .i64 (IntKind.wrap IntKind.i64 (s + (1 : Int))) ∧ True) ∧ I s' w' ∧ μ s' w' < μ s w else R (int .i64 s) w') fun c w => E c w) else R (int .i64 s) w
theorem F47x48_eq (a0_r : Option Addr) (a1_at_ : Int) (w : World) (R : Value → World → Prop) (E : PanW) : F47x48 a0_r a1_at_ w R E = cfun Tryz.prog Tryz.f47 pl47x48 la47x48 [(.pointer a0_r), (.int .i64 a1_at_), (.func (.func 48) #[] #[])] w R E := by kernel_rfl
theorem F47x48_ok : codeOk Tryz.prog Tryz.f47.ntmps pl47x48 (bodyOf Tryz.f47) = true := by kernel_rfl
theorem F47x48_calls (a0_r : Option Addr) (a1_at_ : Int) {w : World} {R : Value → World → Prop} {E : PanW} (h : F47x48 a0_r a1_at_ w R E) : Calls Tryz.prog 47 #[(.pointer a0_r), (.int .i64 a1_at_), (.func (.func 48) #[] #[])] w (endW R E) :=
  calls_of_cfun' (args := [(.pointer a0_r), (.int .i64 a1_at_), (.func (.func 48) #[] #[])]) mixed Tryz.func47 (by kernel_rfl) F47x48_ok (by kernel_rfl) (F47x48_eq a0_r a1_at_ w R E) h

/- 47: (*tollbridge/scan.reader).span -/
def pl47x60 : Nat → List Nat × List Nat := fun i => planAt [] i
/- loop over 1 at -/
def an47x60_0 : Ann := { σ := Int, slots := [1], enc := fun s => [(.int .i64 s)] }
def la47x60 : List Nat → Option Ann := fun p => annAt [([0, 0, 1], an47x60_0)] p
def F47x60 (a0_r : Option Addr) (a1_at_ : Int) (w : World) (R : Value → World → Prop) (E : PanW) : Prop :=
  ∃ (I : (Int) → World → Prop), ∃ (μ : (Int) → World → Nat), (∃ (s : (Int)), (int .i64 s = int .i64 a1_at_ ∧ True) ∧ I s w) ∧ ∀ (s : (Int)) (w : World), I s w → ∀ (junk : Env), wSome a0_r fun (A : Addr) => ∃ s_1, w.cell? (addK A (0 : Nat)) = some (Value.string s_1) ∧ if decide (s < (↑(ByteArray.size s_1) : Int)) = true then wSome a0_r fun (A : Addr) => ∃ s_2, w.cell? (addK A (0 : Nat)) = some (Value.string s_2) ∧ (0 : Int) ≤ s ∧ s < (↑(ByteArray.size s_2) : Int) ∧ Calls Tryz.prog (60 : FuncId) #[int .u8 (byteAt s_2 s)] w (endW (fun v w' => ∃ (b : Bool), v = Value.bool b ∧ if b = true then ∃ (s' : (Int)), (int .i64 s' = int .i64 (IntKind.wrap IntKind.i64 (s + (1 : Int))) ∧ True) ∧ I s' w' ∧ μ s' w' < μ s w else R (int .i64 s) w') fun c w => E c w) else R (int .i64 s) w
theorem F47x60_eq (a0_r : Option Addr) (a1_at_ : Int) (w : World) (R : Value → World → Prop) (E : PanW) : F47x60 a0_r a1_at_ w R E = cfun Tryz.prog Tryz.f47 pl47x60 la47x60 [(.pointer a0_r), (.int .i64 a1_at_), (.func (.func 60) #[] #[])] w R E := by kernel_rfl
theorem F47x60_ok : codeOk Tryz.prog Tryz.f47.ntmps pl47x60 (bodyOf Tryz.f47) = true := by kernel_rfl
theorem F47x60_calls (a0_r : Option Addr) (a1_at_ : Int) {w : World} {R : Value → World → Prop} {E : PanW} (h : F47x60 a0_r a1_at_ w R E) : Calls Tryz.prog 47 #[(.pointer a0_r), (.int .i64 a1_at_), (.func (.func 60) #[] #[])] w (endW R E) :=
  calls_of_cfun' (args := [(.pointer a0_r), (.int .i64 a1_at_), (.func (.func 60) #[] #[])]) mixed Tryz.func47 (by kernel_rfl) F47x60_ok (by kernel_rfl) (F47x60_eq a0_r a1_at_ w R E) h

end Go.Proofs.YtgoanblnkdihfaaGreatDoor.B
