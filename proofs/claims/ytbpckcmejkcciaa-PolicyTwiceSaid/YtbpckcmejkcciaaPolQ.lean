/-
  Policies: a row made plain, by the program.
-/
import Derived.Test.YtbpckcmejkcciaaPolP
set_option maxRecDepth 100000
set_option linter.unusedVariables false
set_option linter.unusedSimpArgs false
namespace Go.Proofs.Ytbpckcmejkcciaa.B
open Go Go.Proofs Go.Proofs.YtbpckcmejkcciaaEng

/-- what 'row' does, whatever makes a term alone -/
def F43g (al : FuncId) (a0_t_0 : Int) (a0_t_1 : Int) (a0_t_2 : Int) (a0_t_3 : Option Addr) (a0_t_4 : Nat) (a0_t_5 : Nat) (a1_nothing : Int) (a2_all : Int) (w : World) (R : Value → World → Prop) (E : PanW) : Prop :=
  ∃ (a : Option Addr), ∃ (n : Nat), ∃ (c : Nat), World.cell? (World.alloc (World.alloc w (Obj.cells #[Value.int IntKind.i8 a0_t_0, Value.int IntKind.i8 a0_t_1, Value.int IntKind.u64 a0_t_2, Value.slice a0_t_3 a0_t_4 a0_t_5] (26 : Nat))) (Obj.cells #[Value.int IntKind.i8 (0 : Int), Value.int IntKind.i8 (0 : Int), Value.int IntKind.u64 (0 : Int), Value.slice Option.none (0 : Nat) (0 : Nat)] (26 : Nat))) (addK { block := Array.size (World.heap w), off := (0 : Nat) } (3 : Nat)) = Option.some (Value.slice a n c) ∧ ∃ (I : ((Option Addr) × Nat × Nat × Int) → World → Prop), ∃ (μ : ((Option Addr) × Nat × Nat × Int) → World → Nat), (∃ (s : ((Option Addr) × Nat × Nat × Int)), (Value.slice (Prod.fst s) (Prod.fst (Prod.snd s)) (Prod.fst (Prod.snd (Prod.snd s))) = Value.slice Option.none (0 : Nat) (0 : Nat) ∧ Value.int IntKind.i64 (Prod.snd (Prod.snd (Prod.snd s))) = Value.int IntKind.i64 (0 : Int) ∧ True) ∧ I s (World.alloc (World.alloc w (Obj.cells #[Value.int IntKind.i8 a0_t_0, Value.int IntKind.i8 a0_t_1, Value.int IntKind.u64 a0_t_2, Value.slice a0_t_3 a0_t_4 a0_t_5] (26 : Nat))) (Obj.cells #[Value.int IntKind.i8 (0 : Int), Value.int IntKind.i8 (0 : Int), Value.int IntKind.u64 (0 : Int), Value.slice Option.none (0 : Nat) (0 : Nat)] (26 : Nat)))) ∧ ∀ (s : ((Option Addr) × Nat × Nat × Int)) (w_1 : World), I s w_1 → ∀ (junk : Env), if Decidable.decide (Prod.snd (Prod.snd (Prod.snd s)) < (↑n : Int)) = Bool.true then (0 : Int) ≤ Prod.snd (Prod.snd (Prod.snd s)) ∧ Prod.snd (Prod.snd (Prod.snd s)) < (↑n : Int) ∧ wSome a fun (A : Addr) => ∃ (x : Int), World.cell? w_1 (addK (addK A (Int.toNat (Prod.snd (Prod.snd (Prod.snd s))) * (4 : Nat))) (0 : Nat)) = Option.some (Value.int IntKind.i8 x) ∧ ∃ (x_1 : Int), World.cell? w_1 (addK (addK A (Int.toNat (Prod.snd (Prod.snd (Prod.snd s))) * (4 : Nat))) (1 : Nat)) = Option.some (Value.int IntKind.i8 x_1) ∧ ∃ (x_2 : Int), World.cell? w_1 (addK (addK A (Int.toNat (Prod.snd (Prod.snd (Prod.snd s))) * (4 : Nat))) (2 : Nat)) = Option.some (Value.int IntKind.u64 x_2) ∧ ∃ (a : Option Addr), ∃ (n : Nat), ∃ (c : Nat), World.cell? w_1 (addK (addK A (Int.toNat (Prod.snd (Prod.snd (Prod.snd s))) * (4 : Nat))) (3 : Nat)) = Option.some (Value.slice a n c) ∧ setW (World.alloc w_1 (Obj.cells #[Value.int IntKind.i8 (0 : Int), Value.int IntKind.i8 (0 : Int), Value.int IntKind.u64 (0 : Int), Value.slice Option.none (0 : Nat) (0 : Nat)] (26 : Nat))) (addK { block := Array.size (World.heap w_1), off := (0 : Nat) } (0 : Nat)) (Value.int IntKind.i8 x) fun (w : World) => setW w (addK { block := Array.size (World.heap w_1), off := (0 : Nat) } (1 : Nat)) (Value.int IntKind.i8 x_1) fun (w : World) => setW w (addK { block := Array.size (World.heap w_1), off := (0 : Nat) } (2 : Nat)) (Value.int IntKind.u64 x_2) fun (w : World) => setW w (addK { block := Array.size (World.heap w_1), off := (0 : Nat) } (3 : Nat)) (Value.slice a n c) fun (w : World) => ∃ (x : Int), World.cell? w (addK { block := Array.size (World.heap w_1), off := (0 : Nat) } (0 : Nat)) = Option.some (Value.int IntKind.i8 x) ∧ ∃ (x_3 : Int), World.cell? w (addK { block := Array.size (World.heap w_1), off := (0 : Nat) } (1 : Nat)) = Option.some (Value.int IntKind.i8 x_3) ∧ ∃ (x_4 : Int), World.cell? w (addK { block := Array.size (World.heap w_1), off := (0 : Nat) } (2 : Nat)) = Option.some (Value.int IntKind.u64 x_4) ∧ ∃ (a : Option Addr), ∃ (n : Nat), ∃ (c : Nat), World.cell? w (addK { block := Array.size (World.heap w_1), off := (0 : Nat) } (3 : Nat)) = Option.some (Value.slice a n c) ∧ Calls Try.prog (32 : Nat) #[Value.agg #[Value.int IntKind.i8 x, Value.int IntKind.i8 x_3, Value.int IntKind.u64 x_4, Value.slice a n c]] w (endW (fun (v : Value) (w' : World) => ∃ (vs : List Value), v = Value.agg (List.toArray vs) ∧ ∃ (v : Value), ∃ (rest : List Value), vs = v :: rest ∧ ∃ (x : Int), v = Value.int IntKind.i8 x ∧ ∃ (v : Value), ∃ (rest_1 : List Value), rest = v :: rest_1 ∧ ∃ (x_5 : Int), v = Value.int IntKind.i8 x_5 ∧ ∃ (v : Value), ∃ (rest : List Value), rest_1 = v :: rest ∧ ∃ (x_6 : Int), v = Value.int IntKind.u64 x_6 ∧ ∃ (v : Value), ∃ (rest_2 : List Value), rest = v :: rest_2 ∧ ∃ (a : Option Addr), ∃ (n : Nat), ∃ (c : Nat), v = Value.slice a n c ∧ rest_2 = [] ∧ runV Try.prog (Builtin.append_ #[(24 : Nat), (24 : Nat)] (24 : Nat) #[Value.slice (Prod.fst s) (Prod.fst (Prod.snd s)) (Prod.fst (Prod.snd (Prod.snd s))), Value.slice (Option.some { block := Array.size (World.heap w'), off := (0 : Nat) }) (1 : Nat) (1 : Nat)]) (World.alloc w' (Obj.cells #[Value.int IntKind.i8 x, Value.int IntKind.i8 x_5, Value.int IntKind.u64 x_6, Value.slice a n c] (26 : Nat))) (fun (v : Value) (w : World) => ∃ (a : Option Addr), ∃ (n : Nat), ∃ (c : Nat), v = Value.slice a n c ∧ ∃ (s' : ((Option Addr) × Nat × Nat × Int)), (Value.slice (Prod.fst s') (Prod.fst (Prod.snd s')) (Prod.fst (Prod.snd (Prod.snd s'))) = Value.slice a n c ∧ Value.int IntKind.i64 (Prod.snd (Prod.snd (Prod.snd s'))) = Value.int IntKind.i64 (IntKind.wrap IntKind.i64 (Prod.snd (Prod.snd (Prod.snd s)) + (1 : Int))) ∧ True) ∧ I s' w ∧ μ s' w < μ s w_1) fun (c : List PanicEntry) (w : World) => E c w) fun (c : List PanicEntry) (w : World) => E c w) else ∃ (x : Int), World.cell? w_1 (addK { block := Array.size (World.heap w), off := (0 : Nat) } (0 : Nat)) = Option.some (Value.int IntKind.i8 x) ∧ Calls Try.prog (51 : Nat) #[Value.int IntKind.i8 x, Value.slice (Prod.fst s) (Prod.fst (Prod.snd s)) (Prod.fst (Prod.snd (Prod.snd s)))] w_1 (endW (fun (v : Value) (w' : World) => ∃ (a : Option Addr), ∃ (n : Nat), ∃ (c : Nat), v = Value.slice a n c ∧ ∃ (I : ((Option Addr) × Nat × Nat × Int) → World → Prop), ∃ (μ : ((Option Addr) × Nat × Nat × Int) → World → Nat), (∃ (s : ((Option Addr) × Nat × Nat × Int)), (Value.slice (Prod.fst s) (Prod.fst (Prod.snd s)) (Prod.fst (Prod.snd (Prod.snd s))) = Value.slice Option.none (0 : Nat) (0 : Nat) ∧ Value.int IntKind.i64 (Prod.snd (Prod.snd (Prod.snd s))) = Value.int IntKind.i64 (0 : Int) ∧ True) ∧ I s w') ∧ ∀ (s : ((Option Addr) × Nat × Nat × Int)) (w_2 : World), I s w_2 → ∀ (junk : Env), if Decidable.decide (Prod.snd (Prod.snd (Prod.snd s)) < (↑n : Int)) = Bool.true then (0 : Int) ≤ Prod.snd (Prod.snd (Prod.snd s)) ∧ Prod.snd (Prod.snd (Prod.snd s)) < (↑n : Int) ∧ wSome a fun (A : Addr) => ∃ (x : Int), World.cell? w_2 (addK (addK A (Int.toNat (Prod.snd (Prod.snd (Prod.snd s))) * (4 : Nat))) (0 : Nat)) = Option.some (Value.int IntKind.i8 x) ∧ ∃ (x_1 : Int), World.cell? w_2 (addK (addK A (Int.toNat (Prod.snd (Prod.snd (Prod.snd s))) * (4 : Nat))) (1 : Nat)) = Option.some (Value.int IntKind.i8 x_1) ∧ ∃ (x_2 : Int), World.cell? w_2 (addK (addK A (Int.toNat (Prod.snd (Prod.snd (Prod.snd s))) * (4 : Nat))) (2 : Nat)) = Option.some (Value.int IntKind.u64 x_2) ∧ ∃ (a : Option Addr), ∃ (n : Nat), ∃ (c : Nat), World.cell? w_2 (addK (addK A (Int.toNat (Prod.snd (Prod.snd (Prod.snd s))) * (4 : Nat))) (3 : Nat)) = Option.some (Value.slice a n c) ∧ setW (World.alloc w_2 (Obj.cells #[Value.int IntKind.i8 (0 : Int), Value.int IntKind.i8 (0 : Int), Value.int IntKind.u64 (0 : Int), Value.slice Option.none (0 : Nat) (0 : Nat)] (26 : Nat))) (addK { block := Array.size (World.heap w_2), off := (0 : Nat) } (0 : Nat)) (Value.int IntKind.i8 x) fun (w_3 : World) => setW w_3 (addK { block := Array.size (World.heap w_2), off := (0 : Nat) } (1 : Nat)) (Value.int IntKind.i8 x_1) fun (w_4 : World) => setW w_4 (addK { block := Array.size (World.heap w_2), off := (0 : Nat) } (2 : Nat)) (Value.int IntKind.u64 x_2) fun (w_5 : World) => setW w_5 (addK { block := Array.size (World.heap w_2), off := (0 : Nat) } (3 : Nat)) (Value.slice a n c) fun (w_6 : World) => if Decidable.decide (a2_all ≥ (0 : Int)) = Bool.true then ∃ (x : Int), World.cell? w_6 (addK { block := Array.size (World.heap w_2), off := (0 : Nat) } (0 : Nat)) = Option.some (Value.int IntKind.i8 x) ∧ ∃ (x_3 : Int), World.cell? w_6 (addK { block := Array.size (World.heap w_2), off := (0 : Nat) } (1 : Nat)) = Option.some (Value.int IntKind.i8 x_3) ∧ ∃ (x_4 : Int), World.cell? w_6 (addK { block := Array.size (World.heap w_2), off := (0 : Nat) } (2 : Nat)) = Option.some (Value.int IntKind.u64 x_4) ∧ ∃ (a : Option Addr), ∃ (n : Nat), ∃ (c : Nat), World.cell? w_6 (addK { block := Array.size (World.heap w_2), off := (0 : Nat) } (3 : Nat)) = Option.some (Value.slice a n c) ∧ Calls Try.prog (52 : Nat) #[Value.agg #[Value.int IntKind.i8 x, Value.int IntKind.i8 x_3, Value.int IntKind.u64 x_4, Value.slice a n c], Value.int IntKind.i8 a2_all] w_6 (endW (fun (v : Value) (w' : World) => ∃ (b : Bool), v = Value.bool b ∧ if b = Bool.true then Calls Try.prog al #[Value.int IntKind.i8 a2_all] w' (endW (fun (v : Value) (w' : World) => ∃ (vs : List Value), v = Value.agg (List.toArray vs) ∧ ∃ (v : Value), ∃ (rest : List Value), vs = v :: rest ∧ ∃ (x : Int), v = Value.int IntKind.i8 x ∧ ∃ (v : Value), ∃ (rest_1 : List Value), rest = v :: rest_1 ∧ ∃ (x_5 : Int), v = Value.int IntKind.i8 x_5 ∧ ∃ (v : Value), ∃ (rest : List Value), rest_1 = v :: rest ∧ ∃ (x_6 : Int), v = Value.int IntKind.u64 x_6 ∧ ∃ (v : Value), ∃ (rest_2 : List Value), rest = v :: rest_2 ∧ ∃ (a : Option Addr), ∃ (n : Nat), ∃ (c : Nat), v = Value.slice a n c ∧ rest_2 = [] ∧ setW w' (addK { block := Array.size (World.heap (World.alloc w (Obj.cells #[Value.int IntKind.i8 a0_t_0, Value.int IntKind.i8 a0_t_1, Value.int IntKind.u64 a0_t_2, Value.slice a0_t_3 a0_t_4 a0_t_5] (26 : Nat)))), off := (0 : Nat) } (0 : Nat)) (Value.int IntKind.i8 x) fun (w_7 : World) => setW w_7 (addK { block := Array.size (World.heap (World.alloc w (Obj.cells #[Value.int IntKind.i8 a0_t_0, Value.int IntKind.i8 a0_t_1, Value.int IntKind.u64 a0_t_2, Value.slice a0_t_3 a0_t_4 a0_t_5] (26 : Nat)))), off := (0 : Nat) } (1 : Nat)) (Value.int IntKind.i8 x_5) fun (w_8 : World) => setW w_8 (addK { block := Array.size (World.heap (World.alloc w (Obj.cells #[Value.int IntKind.i8 a0_t_0, Value.int IntKind.i8 a0_t_1, Value.int IntKind.u64 a0_t_2, Value.slice a0_t_3 a0_t_4 a0_t_5] (26 : Nat)))), off := (0 : Nat) } (2 : Nat)) (Value.int IntKind.u64 x_6) fun (w_9 : World) => setW w_9 (addK { block := Array.size (World.heap (World.alloc w (Obj.cells #[Value.int IntKind.i8 a0_t_0, Value.int IntKind.i8 a0_t_1, Value.int IntKind.u64 a0_t_2, Value.slice a0_t_3 a0_t_4 a0_t_5] (26 : Nat)))), off := (0 : Nat) } (3 : Nat)) (Value.slice a n c) fun (w_10 : World) => ∃ (x : Int), World.cell? w_10 (addK { block := Array.size (World.heap (World.alloc w (Obj.cells #[Value.int IntKind.i8 a0_t_0, Value.int IntKind.i8 a0_t_1, Value.int IntKind.u64 a0_t_2, Value.slice a0_t_3 a0_t_4 a0_t_5] (26 : Nat)))), off := (0 : Nat) } (0 : Nat)) = Option.some (Value.int IntKind.i8 x) ∧ ∃ (x_7 : Int), World.cell? w_10 (addK { block := Array.size (World.heap (World.alloc w (Obj.cells #[Value.int IntKind.i8 a0_t_0, Value.int IntKind.i8 a0_t_1, Value.int IntKind.u64 a0_t_2, Value.slice a0_t_3 a0_t_4 a0_t_5] (26 : Nat)))), off := (0 : Nat) } (1 : Nat)) = Option.some (Value.int IntKind.i8 x_7) ∧ ∃ (x_8 : Int), World.cell? w_10 (addK { block := Array.size (World.heap (World.alloc w (Obj.cells #[Value.int IntKind.i8 a0_t_0, Value.int IntKind.i8 a0_t_1, Value.int IntKind.u64 a0_t_2, Value.slice a0_t_3 a0_t_4 a0_t_5] (26 : Nat)))), off := (0 : Nat) } (2 : Nat)) = Option.some (Value.int IntKind.u64 x_8) ∧ ∃ (a : Option Addr), ∃ (n : Nat), ∃ (c : Nat), World.cell? w_10 (addK { block := Array.size (World.heap (World.alloc w (Obj.cells #[Value.int IntKind.i8 a0_t_0, Value.int IntKind.i8 a0_t_1, Value.int IntKind.u64 a0_t_2, Value.slice a0_t_3 a0_t_4 a0_t_5] (26 : Nat)))), off := (0 : Nat) } (3 : Nat)) = Option.some (Value.slice a n c) ∧ R (Value.agg #[Value.int IntKind.i8 x, Value.int IntKind.i8 x_7, Value.int IntKind.u64 x_8, Value.slice a n c]) w_10) fun (c : List PanicEntry) (w : World) => E c w) else ∃ (x : Int), World.cell? w' (addK { block := Array.size (World.heap w_2), off := (0 : Nat) } (0 : Nat)) = Option.some (Value.int IntKind.i8 x) ∧ ∃ (x_5 : Int), World.cell? w' (addK { block := Array.size (World.heap w_2), off := (0 : Nat) } (1 : Nat)) = Option.some (Value.int IntKind.i8 x_5) ∧ ∃ (x_6 : Int), World.cell? w' (addK { block := Array.size (World.heap w_2), off := (0 : Nat) } (2 : Nat)) = Option.some (Value.int IntKind.u64 x_6) ∧ ∃ (a : Option Addr), ∃ (n : Nat), ∃ (c : Nat), World.cell? w' (addK { block := Array.size (World.heap w_2), off := (0 : Nat) } (3 : Nat)) = Option.some (Value.slice a n c) ∧ Calls Try.prog (52 : Nat) #[Value.agg #[Value.int IntKind.i8 x, Value.int IntKind.i8 x_5, Value.int IntKind.u64 x_6, Value.slice a n c], Value.int IntKind.i8 a1_nothing] w' (endW (fun (v : Value) (w' : World) => ∃ (b : Bool), v = Value.bool b ∧ if (!b) = Bool.true then ∃ (x : Int), World.cell? w' (addK { block := Array.size (World.heap w_2), off := (0 : Nat) } (0 : Nat)) = Option.some (Value.int IntKind.i8 x) ∧ ∃ (x_7 : Int), World.cell? w' (addK { block := Array.size (World.heap w_2), off := (0 : Nat) } (1 : Nat)) = Option.some (Value.int IntKind.i8 x_7) ∧ ∃ (x_8 : Int), World.cell? w' (addK { block := Array.size (World.heap w_2), off := (0 : Nat) } (2 : Nat)) = Option.some (Value.int IntKind.u64 x_8) ∧ ∃ (a : Option Addr), ∃ (n : Nat), ∃ (c : Nat), World.cell? w' (addK { block := Array.size (World.heap w_2), off := (0 : Nat) } (3 : Nat)) = Option.some (Value.slice a n c) ∧ runV Try.prog (Builtin.append_ #[(24 : Nat), (24 : Nat)] (24 : Nat) #[Value.slice (Prod.fst s) (Prod.fst (Prod.snd s)) (Prod.fst (Prod.snd (Prod.snd s))), Value.slice (Option.some { block := Array.size (World.heap w'), off := (0 : Nat) }) (1 : Nat) (1 : Nat)]) (World.alloc w' (Obj.cells #[Value.int IntKind.i8 x, Value.int IntKind.i8 x_7, Value.int IntKind.u64 x_8, Value.slice a n c] (26 : Nat))) (fun (v : Value) (w : World) => ∃ (a : Option Addr), ∃ (n : Nat), ∃ (c : Nat), v = Value.slice a n c ∧ ∃ (s' : ((Option Addr) × Nat × Nat × Int)), (Value.slice (Prod.fst s') (Prod.fst (Prod.snd s')) (Prod.fst (Prod.snd (Prod.snd s'))) = Value.slice a n c ∧ Value.int IntKind.i64 (Prod.snd (Prod.snd (Prod.snd s'))) = Value.int IntKind.i64 (IntKind.wrap IntKind.i64 (Prod.snd (Prod.snd (Prod.snd s)) + (1 : Int))) ∧ True) ∧ I s' w ∧ μ s' w < μ s w_2) fun (c : List PanicEntry) (w : World) => E c w else ∃ (s' : ((Option Addr) × Nat × Nat × Int)), (Value.slice (Prod.fst s') (Prod.fst (Prod.snd s')) (Prod.fst (Prod.snd (Prod.snd s'))) = Value.slice (Prod.fst s) (Prod.fst (Prod.snd s)) (Prod.fst (Prod.snd (Prod.snd s))) ∧ Value.int IntKind.i64 (Prod.snd (Prod.snd (Prod.snd s'))) = Value.int IntKind.i64 (IntKind.wrap IntKind.i64 (Prod.snd (Prod.snd (Prod.snd s)) + (1 : Int))) ∧ True) ∧ I s' w' ∧ μ s' w' < μ s w_2) fun (c : List PanicEntry) (w : World) => E c w)) fun (c : List PanicEntry) (w : World) => E c w) else ∃ (x : Int), World.cell? w_6 (addK { block := Array.size (World.heap w_2), off := (0 : Nat) } (0 : Nat)) = Option.some (Value.int IntKind.i8 x) ∧ ∃ (x_3 : Int), World.cell? w_6 (addK { block := Array.size (World.heap w_2), off := (0 : Nat) } (1 : Nat)) = Option.some (Value.int IntKind.i8 x_3) ∧ ∃ (x_4 : Int), World.cell? w_6 (addK { block := Array.size (World.heap w_2), off := (0 : Nat) } (2 : Nat)) = Option.some (Value.int IntKind.u64 x_4) ∧ ∃ (a : Option Addr), ∃ (n : Nat), ∃ (c : Nat), World.cell? w_6 (addK { block := Array.size (World.heap w_2), off := (0 : Nat) } (3 : Nat)) = Option.some (Value.slice a n c) ∧ Calls Try.prog (52 : Nat) #[Value.agg #[Value.int IntKind.i8 x, Value.int IntKind.i8 x_3, Value.int IntKind.u64 x_4, Value.slice a n c], Value.int IntKind.i8 a1_nothing] w_6 (endW (fun (v : Value) (w' : World) => ∃ (b : Bool), v = Value.bool b ∧ if (!b) = Bool.true then ∃ (x : Int), World.cell? w' (addK { block := Array.size (World.heap w_2), off := (0 : Nat) } (0 : Nat)) = Option.some (Value.int IntKind.i8 x) ∧ ∃ (x_5 : Int), World.cell? w' (addK { block := Array.size (World.heap w_2), off := (0 : Nat) } (1 : Nat)) = Option.some (Value.int IntKind.i8 x_5) ∧ ∃ (x_6 : Int), World.cell? w' (addK { block := Array.size (World.heap w_2), off := (0 : Nat) } (2 : Nat)) = Option.some (Value.int IntKind.u64 x_6) ∧ ∃ (a : Option Addr), ∃ (n : Nat), ∃ (c : Nat), World.cell? w' (addK { block := Array.size (World.heap w_2), off := (0 : Nat) } (3 : Nat)) = Option.some (Value.slice a n c) ∧ runV Try.prog (Builtin.append_ #[(24 : Nat), (24 : Nat)] (24 : Nat) #[Value.slice (Prod.fst s) (Prod.fst (Prod.snd s)) (Prod.fst (Prod.snd (Prod.snd s))), Value.slice (Option.some { block := Array.size (World.heap w'), off := (0 : Nat) }) (1 : Nat) (1 : Nat)]) (World.alloc w' (Obj.cells #[Value.int IntKind.i8 x, Value.int IntKind.i8 x_5, Value.int IntKind.u64 x_6, Value.slice a n c] (26 : Nat))) (fun (v : Value) (w : World) => ∃ (a : Option Addr), ∃ (n : Nat), ∃ (c : Nat), v = Value.slice a n c ∧ ∃ (s' : ((Option Addr) × Nat × Nat × Int)), (Value.slice (Prod.fst s') (Prod.fst (Prod.snd s')) (Prod.fst (Prod.snd (Prod.snd s'))) = Value.slice a n c ∧ Value.int IntKind.i64 (Prod.snd (Prod.snd (Prod.snd s'))) = Value.int IntKind.i64 (IntKind.wrap IntKind.i64 (Prod.snd (Prod.snd (Prod.snd s)) + (1 : Int))) ∧ True) ∧ I s' w ∧ μ s' w < μ s w_2) fun (c : List PanicEntry) (w : World) => E c w else ∃ (s' : ((Option Addr) × Nat × Nat × Int)), (Value.slice (Prod.fst s') (Prod.fst (Prod.snd s')) (Prod.fst (Prod.snd (Prod.snd s'))) = Value.slice (Prod.fst s) (Prod.fst (Prod.snd s)) (Prod.fst (Prod.snd (Prod.snd s))) ∧ Value.int IntKind.i64 (Prod.snd (Prod.snd (Prod.snd s'))) = Value.int IntKind.i64 (IntKind.wrap IntKind.i64 (Prod.snd (Prod.snd (Prod.snd s)) + (1 : Int))) ∧ True) ∧ I s' w' ∧ μ s' w' < μ s w_2) fun (c : List PanicEntry) (w : World) => E c w) else if ((↑(Prod.fst (Prod.snd s)) : Int) == (0 : Int)) = Bool.true then Calls Try.prog al #[Value.int IntKind.i8 a1_nothing] w_2 (endW (fun (v : Value) (w' : World) => ∃ (vs : List Value), v = Value.agg (List.toArray vs) ∧ ∃ (v : Value), ∃ (rest : List Value), vs = v :: rest ∧ ∃ (x : Int), v = Value.int IntKind.i8 x ∧ ∃ (v : Value), ∃ (rest_1 : List Value), rest = v :: rest_1 ∧ ∃ (x_1 : Int), v = Value.int IntKind.i8 x_1 ∧ ∃ (v : Value), ∃ (rest : List Value), rest_1 = v :: rest ∧ ∃ (x_2 : Int), v = Value.int IntKind.u64 x_2 ∧ ∃ (v : Value), ∃ (rest_2 : List Value), rest = v :: rest_2 ∧ ∃ (a : Option Addr), ∃ (n : Nat), ∃ (c : Nat), v = Value.slice a n c ∧ rest_2 = [] ∧ setW w' (addK { block := Array.size (World.heap (World.alloc w (Obj.cells #[Value.int IntKind.i8 a0_t_0, Value.int IntKind.i8 a0_t_1, Value.int IntKind.u64 a0_t_2, Value.slice a0_t_3 a0_t_4 a0_t_5] (26 : Nat)))), off := (0 : Nat) } (0 : Nat)) (Value.int IntKind.i8 x) fun (w_3 : World) => setW w_3 (addK { block := Array.size (World.heap (World.alloc w (Obj.cells #[Value.int IntKind.i8 a0_t_0, Value.int IntKind.i8 a0_t_1, Value.int IntKind.u64 a0_t_2, Value.slice a0_t_3 a0_t_4 a0_t_5] (26 : Nat)))), off := (0 : Nat) } (1 : Nat)) (Value.int IntKind.i8 x_1) fun (w_4 : World) => setW w_4 (addK { block := Array.size (World.heap (World.alloc w (Obj.cells #[Value.int IntKind.i8 a0_t_0, Value.int IntKind.i8 a0_t_1, Value.int IntKind.u64 a0_t_2, Value.slice a0_t_3 a0_t_4 a0_t_5] (26 : Nat)))), off := (0 : Nat) } (2 : Nat)) (Value.int IntKind.u64 x_2) fun (w_5 : World) => setW w_5 (addK { block := Array.size (World.heap (World.alloc w (Obj.cells #[Value.int IntKind.i8 a0_t_0, Value.int IntKind.i8 a0_t_1, Value.int IntKind.u64 a0_t_2, Value.slice a0_t_3 a0_t_4 a0_t_5] (26 : Nat)))), off := (0 : Nat) } (3 : Nat)) (Value.slice a n c) fun (w_6 : World) => ∃ (x : Int), World.cell? w_6 (addK { block := Array.size (World.heap (World.alloc w (Obj.cells #[Value.int IntKind.i8 a0_t_0, Value.int IntKind.i8 a0_t_1, Value.int IntKind.u64 a0_t_2, Value.slice a0_t_3 a0_t_4 a0_t_5] (26 : Nat)))), off := (0 : Nat) } (0 : Nat)) = Option.some (Value.int IntKind.i8 x) ∧ ∃ (x_3 : Int), World.cell? w_6 (addK { block := Array.size (World.heap (World.alloc w (Obj.cells #[Value.int IntKind.i8 a0_t_0, Value.int IntKind.i8 a0_t_1, Value.int IntKind.u64 a0_t_2, Value.slice a0_t_3 a0_t_4 a0_t_5] (26 : Nat)))), off := (0 : Nat) } (1 : Nat)) = Option.some (Value.int IntKind.i8 x_3) ∧ ∃ (x_4 : Int), World.cell? w_6 (addK { block := Array.size (World.heap (World.alloc w (Obj.cells #[Value.int IntKind.i8 a0_t_0, Value.int IntKind.i8 a0_t_1, Value.int IntKind.u64 a0_t_2, Value.slice a0_t_3 a0_t_4 a0_t_5] (26 : Nat)))), off := (0 : Nat) } (2 : Nat)) = Option.some (Value.int IntKind.u64 x_4) ∧ ∃ (a : Option Addr), ∃ (n : Nat), ∃ (c : Nat), World.cell? w_6 (addK { block := Array.size (World.heap (World.alloc w (Obj.cells #[Value.int IntKind.i8 a0_t_0, Value.int IntKind.i8 a0_t_1, Value.int IntKind.u64 a0_t_2, Value.slice a0_t_3 a0_t_4 a0_t_5] (26 : Nat)))), off := (0 : Nat) } (3 : Nat)) = Option.some (Value.slice a n c) ∧ R (Value.agg #[Value.int IntKind.i8 x, Value.int IntKind.i8 x_3, Value.int IntKind.u64 x_4, Value.slice a n c]) w_6) fun (c : List PanicEntry) (w : World) => E c w) else if ((↑(Prod.fst (Prod.snd s)) : Int) == (1 : Int)) = Bool.true then (0 : Int) ≤ (0 : Int) ∧ (0 : Int) < (↑(Prod.fst (Prod.snd s)) : Int) ∧ wSome s.1 fun (A : Addr) => ∃ (x : Int), World.cell? w_2 (addK (addK A (0 : Nat)) (0 : Nat)) = Option.some (Value.int IntKind.i8 x) ∧ ∃ (x_1 : Int), World.cell? w_2 (addK (addK A (0 : Nat)) (1 : Nat)) = Option.some (Value.int IntKind.i8 x_1) ∧ ∃ (x_2 : Int), World.cell? w_2 (addK (addK A (0 : Nat)) (2 : Nat)) = Option.some (Value.int IntKind.u64 x_2) ∧ ∃ (a : Option Addr), ∃ (n : Nat), ∃ (c : Nat), World.cell? w_2 (addK (addK A (0 : Nat)) (3 : Nat)) = Option.some (Value.slice a n c) ∧ setW w_2 (addK { block := Array.size (World.heap (World.alloc w (Obj.cells #[Value.int IntKind.i8 a0_t_0, Value.int IntKind.i8 a0_t_1, Value.int IntKind.u64 a0_t_2, Value.slice a0_t_3 a0_t_4 a0_t_5] (26 : Nat)))), off := (0 : Nat) } (0 : Nat)) (Value.int IntKind.i8 x) fun (w_3 : World) => setW w_3 (addK { block := Array.size (World.heap (World.alloc w (Obj.cells #[Value.int IntKind.i8 a0_t_0, Value.int IntKind.i8 a0_t_1, Value.int IntKind.u64 a0_t_2, Value.slice a0_t_3 a0_t_4 a0_t_5] (26 : Nat)))), off := (0 : Nat) } (1 : Nat)) (Value.int IntKind.i8 x_1) fun (w_4 : World) => setW w_4 (addK { block := Array.size (World.heap (World.alloc w (Obj.cells #[Value.int IntKind.i8 a0_t_0, Value.int IntKind.i8 a0_t_1, Value.int IntKind.u64 a0_t_2, Value.slice a0_t_3 a0_t_4 a0_t_5] (26 : Nat)))), off := (0 : Nat) } (2 : Nat)) (Value.int IntKind.u64 x_2) fun (w_5 : World) => setW w_5 (addK { block := Array.size (World.heap (World.alloc w (Obj.cells #[Value.int IntKind.i8 a0_t_0, Value.int IntKind.i8 a0_t_1, Value.int IntKind.u64 a0_t_2, Value.slice a0_t_3 a0_t_4 a0_t_5] (26 : Nat)))), off := (0 : Nat) } (3 : Nat)) (Value.slice a n c) fun (w_6 : World) => ∃ (x : Int), World.cell? w_6 (addK { block := Array.size (World.heap (World.alloc w (Obj.cells #[Value.int IntKind.i8 a0_t_0, Value.int IntKind.i8 a0_t_1, Value.int IntKind.u64 a0_t_2, Value.slice a0_t_3 a0_t_4 a0_t_5] (26 : Nat)))), off := (0 : Nat) } (0 : Nat)) = Option.some (Value.int IntKind.i8 x) ∧ ∃ (x_3 : Int), World.cell? w_6 (addK { block := Array.size (World.heap (World.alloc w (Obj.cells #[Value.int IntKind.i8 a0_t_0, Value.int IntKind.i8 a0_t_1, Value.int IntKind.u64 a0_t_2, Value.slice a0_t_3 a0_t_4 a0_t_5] (26 : Nat)))), off := (0 : Nat) } (1 : Nat)) = Option.some (Value.int IntKind.i8 x_3) ∧ ∃ (x_4 : Int), World.cell? w_6 (addK { block := Array.size (World.heap (World.alloc w (Obj.cells #[Value.int IntKind.i8 a0_t_0, Value.int IntKind.i8 a0_t_1, Value.int IntKind.u64 a0_t_2, Value.slice a0_t_3 a0_t_4 a0_t_5] (26 : Nat)))), off := (0 : Nat) } (2 : Nat)) = Option.some (Value.int IntKind.u64 x_4) ∧ ∃ (a : Option Addr), ∃ (n : Nat), ∃ (c : Nat), World.cell? w_6 (addK { block := Array.size (World.heap (World.alloc w (Obj.cells #[Value.int IntKind.i8 a0_t_0, Value.int IntKind.i8 a0_t_1, Value.int IntKind.u64 a0_t_2, Value.slice a0_t_3 a0_t_4 a0_t_5] (26 : Nat)))), off := (0 : Nat) } (3 : Nat)) = Option.some (Value.slice a n c) ∧ R (Value.agg #[Value.int IntKind.i8 x, Value.int IntKind.i8 x_3, Value.int IntKind.u64 x_4, Value.slice a n c]) w_6 else ∃ (x : Int), World.cell? w_2 (addK { block := Array.size (World.heap w), off := (0 : Nat) } (0 : Nat)) = Option.some (Value.int IntKind.i8 x) ∧ setW w_2 (addK { block := Array.size (World.heap (World.alloc w (Obj.cells #[Value.int IntKind.i8 a0_t_0, Value.int IntKind.i8 a0_t_1, Value.int IntKind.u64 a0_t_2, Value.slice a0_t_3 a0_t_4 a0_t_5] (26 : Nat)))), off := (0 : Nat) } (0 : Nat)) (Value.int IntKind.i8 x) fun (w_3 : World) => setW w_3 (addK { block := Array.size (World.heap (World.alloc w (Obj.cells #[Value.int IntKind.i8 a0_t_0, Value.int IntKind.i8 a0_t_1, Value.int IntKind.u64 a0_t_2, Value.slice a0_t_3 a0_t_4 a0_t_5] (26 : Nat)))), off := (0 : Nat) } (1 : Nat)) (Value.int IntKind.i8 (0 : Int)) fun (w_4 : World) => setW w_4 (addK { block := Array.size (World.heap (World.alloc w (Obj.cells #[Value.int IntKind.i8 a0_t_0, Value.int IntKind.i8 a0_t_1, Value.int IntKind.u64 a0_t_2, Value.slice a0_t_3 a0_t_4 a0_t_5] (26 : Nat)))), off := (0 : Nat) } (2 : Nat)) (Value.int IntKind.u64 (0 : Int)) fun (w_5 : World) => setW w_5 (addK { block := Array.size (World.heap (World.alloc w (Obj.cells #[Value.int IntKind.i8 a0_t_0, Value.int IntKind.i8 a0_t_1, Value.int IntKind.u64 a0_t_2, Value.slice a0_t_3 a0_t_4 a0_t_5] (26 : Nat)))), off := (0 : Nat) } (3 : Nat)) (Value.slice (Prod.fst s) (Prod.fst (Prod.snd s)) (Prod.fst (Prod.snd (Prod.snd s)))) fun (w_6 : World) => ∃ (x : Int), World.cell? w_6 (addK { block := Array.size (World.heap (World.alloc w (Obj.cells #[Value.int IntKind.i8 a0_t_0, Value.int IntKind.i8 a0_t_1, Value.int IntKind.u64 a0_t_2, Value.slice a0_t_3 a0_t_4 a0_t_5] (26 : Nat)))), off := (0 : Nat) } (0 : Nat)) = Option.some (Value.int IntKind.i8 x) ∧ ∃ (x_1 : Int), World.cell? w_6 (addK { block := Array.size (World.heap (World.alloc w (Obj.cells #[Value.int IntKind.i8 a0_t_0, Value.int IntKind.i8 a0_t_1, Value.int IntKind.u64 a0_t_2, Value.slice a0_t_3 a0_t_4 a0_t_5] (26 : Nat)))), off := (0 : Nat) } (1 : Nat)) = Option.some (Value.int IntKind.i8 x_1) ∧ ∃ (x_2 : Int), World.cell? w_6 (addK { block := Array.size (World.heap (World.alloc w (Obj.cells #[Value.int IntKind.i8 a0_t_0, Value.int IntKind.i8 a0_t_1, Value.int IntKind.u64 a0_t_2, Value.slice a0_t_3 a0_t_4 a0_t_5] (26 : Nat)))), off := (0 : Nat) } (2 : Nat)) = Option.some (Value.int IntKind.u64 x_2) ∧ ∃ (a : Option Addr), ∃ (n : Nat), ∃ (c : Nat), World.cell? w_6 (addK { block := Array.size (World.heap (World.alloc w (Obj.cells #[Value.int IntKind.i8 a0_t_0, Value.int IntKind.i8 a0_t_1, Value.int IntKind.u64 a0_t_2, Value.slice a0_t_3 a0_t_4 a0_t_5] (26 : Nat)))), off := (0 : Nat) } (3 : Nat)) = Option.some (Value.slice a n c) ∧ R (Value.agg #[Value.int IntKind.i8 x, Value.int IntKind.i8 x_1, Value.int IntKind.u64 x_2, Value.slice a n c]) w_6) fun (c : List PanicEntry) (w : World) => E c w)
theorem F43x44_g : F43x44 = F43g 44 := rfl
theorem F43x45_g : F43x45 = F43g 45 := rfl
mutual
theorem TO.lt {w : World} {S : Nat → Prop} : ∀ {t : Tm} {op f n : Int} {a : Option Addr} {len c : Nat}, TO w S t op f n a len c → TO w (fun b => S b ∧ b < w.heap.size) t op f n a len c
  | .mk _ _ _ ks, op, f, n, a, len, c, h => by
    simp only [TO] at h ⊢
    exact ⟨h.1, h.2.1, h.2.2.1, h.2.2.2.1, h.2.2.2.2.1, h.2.2.2.2.2.1, h.2.2.2.2.2.2.1, KO.lt h.2.2.2.2.2.2.2⟩
theorem KO.lt {w : World} {S : Nat → Prop} : ∀ {ks : List Tm} {a : Option Addr} {i : Nat}, KO w S ks a i → KO w (fun b => S b ∧ b < w.heap.size) ks a i
  | [], _, _, _ => by simp only [KO]
  | k :: ks, a, i, h => by
    simp only [KO] at h ⊢
    obtain ⟨⟨A, op, f, n, b, m, c, h1, h0, h2, h3, h4, h5, h6⟩, h7⟩ := h
    have hlt : A.block < w.heap.size := by
      rcases Nat.lt_or_ge A.block w.heap.size with h' | h'
      · exact h'
      · have e : (addK (addK A (i * 4)) 0).block = A.block := by rw [addK_block, addK_block]
        simp [World.cell?, e, Array.getElem?_eq_none h'] at h2
    exact ⟨⟨A, op, f, n, b, m, c, h1, ⟨⟨h0.1, hlt⟩, h0.2⟩, h2, h3, h4, h5, TO.lt h6⟩, KO.lt h7⟩
end
theorem V4.own.lt {v : V4} {w : World} {S : Nat → Prop} {t : Tm} (h : v.own w S t) : v.own w (fun b => S b ∧ b < w.heap.size) t := TO.lt h
theorem own_cap {w : World} {base : Nat} {e : TypeId} {size n c : Nat} {a : Option Addr} {xs : List Value} (h : w.ownsRow base e size (.slice a n c) n xs) : n ≤ c ∧ c ≤ 9223372036854775807 := by
  rcases h.2 with ⟨he, h0⟩ | ⟨g, cap, cur, he, hg, hh, hn, hm, hsz, ht⟩
  · injection he with _ _ h2
    omega
  · injection he with _ _ h2
    subst h2
    exact ⟨hn, by unfold maxLen at hm; omega⟩
theorem own_at {w : World} {base : Nat} {e : TypeId} {size n c : Nat} {a : Option Addr} {xs : List Value} (h : w.ownsRow base e size (.slice a n c) n xs) : ∀ A, a = some A → base ≤ A.block ∧ A.block < w.heap.size := fun A hA => by
  subst hA
  have := own_lt' h (k := A.block) rfl
  omega
/-- what plain is asked -/
def PPlain (t : Tm) : Prop := ∀ (p : Bool) (v : V4) (w : World), rightS t p = true → v.is w t → tsize t ≤ 1000000 → Calls Try.prog 32 #[.agg v.arr] w (endW (RetT w (plainS t)) (fun _ _ => False))
theorem plainL_take {ks : List Tm} {j : Nat} (hj : j < ks.length) : plainL (ks.take (j + 1)) = plainL (ks.take j) ++ [plainS ks[j]] := by
  rw [take_snoc hj, plainL_map, plainL_map, List.map_append]
  rfl
theorem plainL_len (ks : List Tm) : (plainL ks).length = ks.length := by rw [plainL_map, List.length_map]
/-- what of a row is left -/
def leftOf (g : List Tm) (nothing : Int) : List Tm := g.filter fun k => !saysS k nothing
theorem left_take {g : List Tm} {nothing : Int} {j : Nat} (hj : j < g.length) : leftOf (g.take (j + 1)) nothing = leftOf (g.take j) nothing ++ (if saysS g[j] nothing = true then [] else [g[j]]) := by
  rw [take_snoc hj]
  unfold leftOf
  rw [List.filter_append, List.filter_cons]
  by_cases h : saysS g[j] nothing = true <;> simp [h]
theorem left_len (g : List Tm) (nothing : Int) : (leftOf g nothing).length ≤ g.length := List.length_filter_le _ _
theorem RowG {al : FuncId} {alone : Int → Tm} (hal : ∀ (w : World) (x : Int), -128 ≤ x ∧ x ≤ 127 → Calls Try.prog al #[.int .i8 x] w (endW (RetT w (alone x)) (fun _ _ => False)))
    {w : World} {op f n : Int} {ks : List Tm} {v : V4} {p : Bool} {nothing all : Int} (ih : ∀ k ∈ ks, PPlain k) (hv : v.is w (.mk op f n ks)) (hr : ∀ k ∈ ks, rightS k p = true) (hsz : lsize ks ≤ 1000000) (hpl : lsize (plainL ks) ≤ lsize ks)
    (hg6 : ∀ x ∈ gatherS op (plainL ks), opS x = 6 → kidsS x ≠ []) (hn : -128 ≤ nothing ∧ nothing ≤ 127) (ha : -128 ≤ all ∧ all ≤ 127) :
    F43g al v.op v.f v.n v.b v.m v.c nothing all w (RetT w (rowS op (plainL ks) nothing all alone)) (fun _ _ => False) := by
  delta F43g
  obtain ⟨ks', e0, hlen, hmc, hcm, hrng, hget⟩ := TVal.parts hv
  injection e0 with e1 e2 e3 e4
  subst e1 e4
  have hP0 := mine_alloc (Chg.refl NoS w) v.arr 26
  have hs1 := size_alloc w (.cells v.arr 26)
  generalize w.alloc (.cells v.arr 26) = w1 at *
  have hZ0 := mine_alloc hP0.2.1 #[.int .i8 0, .int .i8 0, .int .u64 0, .slice none 0 0] 26
  have hs2 := size_alloc w1 (.cells #[.int .i8 0, .int .i8 0, .int .u64 0, .slice none 0 0] 26)
  have hP1 := hP0.keep (chg_alloc w1 (.cells #[.int .i8 0, .int .i8 0, .int .u64 0, .slice none 0 0] 26) NoS)
  generalize w1.alloc (.cells #[.int .i8 0, .int .i8 0, .int .u64 0, .slice none 0 0] 26) = w2 at *
  refine ⟨_, _, _, (mine_cell hP1 3).trans rfl, ?_⟩
  have hlk := lsize_len ks
  -- the kids, made plain
  refine ⟨fun s w3 => ∃ (j : Nat) (us : List V4), s.2.2.2 = j ∧ j ≤ v.m ∧ s.2.1 = j ∧ w3.ownsRow w2.heap.size 26 4 (.slice s.1 s.2.1 s.2.2.1) s.2.1 (flat us) ∧ VO w3 (fun b => w2.heap.size ≤ b ∧ b < w3.heap.size ∧ (Value.slice s.1 s.2.1 s.2.2.1).ownBlock ≠ some b) us (plainL (ks.take j)) ∧ Chg NoS w2 w3, fun s _ => (v.m - s.2.2.2).toNat,
    ⟨(none, 0, 0, 0), ⟨rfl, rfl, trivial⟩, 0, [], rfl, by omega, rfl, own_nil' _ _ _ _, .nil, Chg.refl _ _⟩, ?_⟩
  rintro ⟨la, ln, lc, i⟩ w3 ⟨j, us, hi, hj, hln, ho3, hV3, hc3⟩ _
  dsimp only at hi hln ho3 hV3 ⊢
  subst hi
  subst hln
  by_cases hlt : (ln : Int) < v.m
  · rw [if_pos (by simpa using hlt)]
    have hjk : ln < ks.length := by omega
    obtain ⟨A, hA, hT⟩ := hget ln _ (List.getElem?_eq_getElem hjk)
    obtain ⟨o', f', n', b', m', c', q0, q1, q2, q3, hq⟩ := hT.keep (hP1.2.1.trans hc3)
    rw [hA, wSome_some]
    refine ⟨by omega, by omega, _, q0, _, q1, _, q2, _, _, _, q3, ?_⟩
    refine set4 ⟨o', f', n', b', m', c'⟩ (mine_alloc (Chg.refl NoS w3) _ _) rfl ?_
    intro w4 hM4 _
    have hc4 := hM4.2.1
    refine get4 hM4 ?_
    have hkm := List.getElem_mem hjk
    have htk := tsize_le hkm
    refine Calls.then (ih _ hkm p ⟨o', f', n', b', m', c'⟩ w4 (hr _ hkm) (TVal.keep hc4 hq) (by omega)) ?_
    rintro r w5 ⟨u, rfl, hu, hc5⟩
    refine agg4 ?_
    have hb6 := blk_alloc w5 (.cells u.arr 26)
    have hc6 := chg_alloc w5 (.cells u.arr 26) NoS
    generalize w5.alloc (.cells u.arr 26) = w6 at *
    have hc36 := (hc4.trans hc5).trans hc6
    have z3 := hc3.size
    have z4 := hc4.size
    have z5 := hc5.size
    have z6 := hc6.size
    refine terms_append (base := w2.heap.size) (us := [u]) (own_none ho3 hc36) rfl (reads_lit hb6) (fun e => by cases e) (by omega) (by omega) ?_
    intro a7 c7 w7 ho7 hc7 hb7
    have z7 := hc7.size
    have hold := fun k => own_lt' ho3 (k := k)
    refine ⟨_, _, _, rfl, (a7, ln + 1, c7, (ln : Int) + 1), ⟨rfl, by rw [i64w _ (by omega) (by omega)], trivial⟩, ⟨ln + 1, us ++ [u], by dsimp only; omega, by omega, rfl, ho7, ?_, chg_own (hc3.trans hc36) (Nat.le_refl _) (own_none ho3 hc36) hc7⟩, by dsimp only; omega⟩
    rw [plainL_take hjk]
    have h1 : VO w6 (fun b => w2.heap.size ≤ b ∧ b < w3.heap.size ∧ (Value.slice la ln lc).ownBlock ≠ some b) us (plainL (ks.take ln)) := hV3.keepN hc36
    have h2 : VO w7 (fun b => w2.heap.size ≤ b ∧ b < w7.heap.size ∧ (Value.slice a7 (ln + 1) c7).ownBlock ≠ some b) us (plainL (ks.take ln)) := h1.keep hc7 (fun b hb e => hb.2.2 e) fun b hb => ⟨hb.1, by omega, fun e => by
      rcases hb7 b e with e' | e'
      · exact hb.2.2 e'
      · omega⟩
    have h3 : u.own w7 (fun b => w2.heap.size ≤ b ∧ b < w7.heap.size ∧ (Value.slice a7 (ln + 1) c7).ownBlock ≠ some b) (plainS ks[ln]) := (hu.lt.keepN hc6).keep hc7 (fun b hb e => by have := (hold b e).1; omega) fun b hb => ⟨by omega, by omega, fun e => by
      rcases hb7 b e with e' | e'
      · have := (hold b e').1; omega
      · omega⟩
    exact h2.append (.cons h3 .nil)
  rw [if_neg (by simpa using hlt)]
  have hlnm : ln = ks.length := by omega
  rw [hlnm, List.take_length] at hV3
  have hc23 := hc3
  have hP3 := hP1.keep hc3
  have hZ3 := hZ0.keep hc3
  refine ⟨_, (mine_cell hP3 0).trans rfl, ?_⟩
  have hVg : VO w3 (fun b => w2.heap.size ≤ b) us (plainL ks) := hV3.mono fun b hb => hb.1
  refine Calls.then (Gathered_ok (op := v.op) hVg (own_reads' ho3) (by rw [plainL_len]; exact hlnm) (by omega)) ?_
  rintro r w4 ⟨ga, gc, gs, rfl, hog, hVg4, hc4⟩
  have hgl : (gatherS v.op (plainL ks)).length ≤ 1000000 := by
    have h1 := lsize_len (gatherS v.op (plainL ks))
    have h2 := (gather_size v.op (plainL ks)).1
    omega
  have hrow : rowS v.op (plainL ks) nothing all alone = if 0 ≤ all ∧ (gatherS v.op (plainL ks)).any (fun k => saysS k all) = true then alone all else joinS v.op (leftOf (gatherS v.op (plainL ks)) nothing) (alone nothing) := rfl
  generalize hge : gatherS v.op (plainL ks) = g at *
  have hgr := own_reads' hog
  have hP4 := hP3.keep hc4
  have hZ4 := hZ3.keep hc4
  have z4 := hc4.size
  have z3 := hc3.size
  refine ⟨_, _, _, rfl, ?_⟩
  -- what is left
  refine ⟨fun s w5 => ∃ (j : Nat) (us : List V4), s.2.2.2 = j ∧ j ≤ g.length ∧ s.2.1 = (leftOf (g.take j) nothing).length ∧ w5.ownsRow w4.heap.size 26 4 (.slice s.1 s.2.1 s.2.2.1) s.2.1 (flat us) ∧ VO w4 (fun b => w2.heap.size ≤ b) us (leftOf (g.take j) nothing) ∧ (0 ≤ all → (g.take j).any (fun k => saysS k all) = false) ∧ Chg NoS w4 w5, fun s _ => (g.length - s.2.2.2).toNat,
    ⟨(none, 0, 0, 0), ⟨rfl, rfl, trivial⟩, 0, [], rfl, by omega, rfl, own_nil' _ _ _ _, .nil, fun _ => rfl, Chg.refl _ _⟩, ?_⟩
  rintro ⟨la', ln', lc', i'⟩ w5 ⟨j, ls, hi, hj, hln, ho5, hV5, hno, hc5⟩ _
  dsimp only at hi hln ho5 ⊢
  subst hi
  have hP5 := hP4.keep hc5
  have hZ5 := hZ4.keep hc5
  have z5 := hc5.size
  by_cases hlt : (j : Int) < g.length
  · rw [if_pos (by simpa using hlt)]
    have hjg : j < g.length := by omega
    obtain ⟨u, hu, hown⟩ := hVg4.get j _ (List.getElem?_eq_getElem hjg)
    obtain ⟨A, hA, q0, q1, q2, q3⟩ := reads4 (reads_keep hgr hc5) hu
    rw [hA, wSome_some]
    refine ⟨by omega, by omega, _, q0, _, q1, _, q2, _, _, _, q3, ?_⟩
    refine set4 u (mine_alloc (Chg.refl NoS w5) _ _) rfl ?_
    intro w6 hM6 _
    have hc6 := hM6.2.1
    have z6 := hc6.size
    have h6 := hg6 _ (List.getElem_mem hjg)
    have hown6 : u.own w6 (fun b => w2.heap.size ≤ b) g[j] := hown.keepN (hc5.trans hc6)
    have hlt' := left_take (nothing := nothing) hjg
    have hll := left_len (g.take (j + 1)) nothing
    have hll0 := left_len (g.take j) nothing
    have hlen5 := hV5.len
    rw [List.length_take] at hll hll0
    by_cases h0 : 0 ≤ all
    · rw [if_pos (by simpa using h0)]
      refine get4 hM6 ?_
      refine Calls.then (Says_ok hown6.is h6) ?_
      rintro r w7 ⟨rfl, hc7⟩
      refine ⟨_, rfl, ?_⟩
      have z7 := hc7.size
      by_cases hf : saysS g[j] all = true
      · rw [if_pos hf]
        refine Calls.then (hal w7 all ha) ?_
        rintro r wA ⟨uA, rfl, huA, hcA⟩
        refine agg4 ?_
        have zA := hcA.size
        refine set4 uA (((hZ5.keep hc6).keep hc7).keep hcA) rfl ?_
        intro wB hMB hcB
        refine get4 hMB ?_
        refine ⟨uA, rfl, ?_, hMB.2.1⟩
        rw [hrow, if_pos ⟨h0, List.any_eq_true.2 ⟨g[j], List.getElem_mem hjg, hf⟩⟩]
        exact huA.keep hcB (fun b hb e => by have : b = w1.heap.size := e; omega) fun b hb => by omega
      · rw [if_neg hf]
        have hna : 0 ≤ all → saysS g[j] all = false := fun _ => by simpa using hf
        have hM7 := hM6.keep hc7
        refine get4 hM7 ?_
        refine Calls.then (Says_ok (hown6.keepN hc7).is h6) ?_
        rintro r w8 ⟨rfl, hc8⟩
        have hM8 := hM7.keep hc8
        have hc68 := hc7.trans hc8
        have z8 := hc68.size
        refine ⟨_, rfl, ?_⟩
        have hno' : 0 ≤ all → (g.take (j + 1)).any (fun k => saysS k all) = false := fun h => by
          rw [take_snoc hjg, List.any_append, hno h]
          simp [hna h]
        by_cases hs : saysS g[j] nothing = true
        · rw [if_neg (by simp [hs])]
          rw [if_pos hs, List.append_nil] at hlt'
          exact ⟨(la', ln', lc', (j : Int) + 1), ⟨rfl, by rw [i64w _ (by omega) (by omega)], trivial⟩, ⟨j + 1, ls, by dsimp only; omega, by omega, by dsimp only; rw [hlt']; exact hln, own_none ho5 (hc6.trans hc68), by rw [hlt']; exact hV5, hno', hc5.trans (hc6.trans hc68)⟩, by dsimp only; omega⟩
        · rw [if_pos (by simp [hs])]
          rw [if_neg hs] at hlt'
          refine get4 hM8 ?_
          have hb9 := blk_alloc w8 (.cells u.arr 26)
          have hc9 := chg_alloc w8 (.cells u.arr 26) NoS
          generalize w8.alloc (.cells u.arr 26) = w9 at *
          have z9 := hc9.size
          have hc59 := (hc6.trans hc68).trans hc9
          refine terms_append (base := w4.heap.size) (us := [u]) (own_none ho5 hc59) rfl (reads_lit hb9) (fun e => by cases e) (by omega) (by omega) ?_
          intro a10 c10 w10 ho10 hc10 _
          exact ⟨_, _, _, rfl, (a10, ln' + 1, c10, (j : Int) + 1), ⟨rfl, by rw [i64w _ (by omega) (by omega)], trivial⟩, ⟨j + 1, ls ++ [u], by dsimp only; omega, by omega, by dsimp only; rw [hlt', List.length_append, hln]; rfl, ho10, by rw [hlt']; exact hV5.append (.cons hown .nil), hno', chg_own (hc5.trans hc59) (Nat.le_refl _) (own_none ho5 hc59) hc10⟩, by dsimp only; omega⟩
    · rw [if_neg (by simpa using h0)]
      have hna : 0 ≤ all → saysS g[j] all = false := fun h => absurd h h0
      have hc7 : Chg NoS w6 w6 := Chg.refl _ _
      have hM7 := hM6.keep hc7
      refine get4 hM7 ?_
      refine Calls.then (Says_ok (hown6.keepN hc7).is h6) ?_
      rintro r w8 ⟨rfl, hc8⟩
      have hM8 := hM7.keep hc8
      have hc68 := hc7.trans hc8
      have z8 := hc68.size
      refine ⟨_, rfl, ?_⟩
      have hno' : 0 ≤ all → (g.take (j + 1)).any (fun k => saysS k all) = false := fun h => by
        rw [take_snoc hjg, List.any_append, hno h]
        simp [hna h]
      by_cases hs : saysS g[j] nothing = true
      · rw [if_neg (by simp [hs])]
        rw [if_pos hs, List.append_nil] at hlt'
        exact ⟨(la', ln', lc', (j : Int) + 1), ⟨rfl, by rw [i64w _ (by omega) (by omega)], trivial⟩, ⟨j + 1, ls, by dsimp only; omega, by omega, by dsimp only; rw [hlt']; exact hln, own_none ho5 (hc6.trans hc68), by rw [hlt']; exact hV5, hno', hc5.trans (hc6.trans hc68)⟩, by dsimp only; omega⟩
      · rw [if_pos (by simp [hs])]
        rw [if_neg hs] at hlt'
        refine get4 hM8 ?_
        have hb9 := blk_alloc w8 (.cells u.arr 26)
        have hc9 := chg_alloc w8 (.cells u.arr 26) NoS
        generalize w8.alloc (.cells u.arr 26) = w9 at *
        have z9 := hc9.size
        have hc59 := (hc6.trans hc68).trans hc9
        refine terms_append (base := w4.heap.size) (us := [u]) (own_none ho5 hc59) rfl (reads_lit hb9) (fun e => by cases e) (by omega) (by omega) ?_
        intro a10 c10 w10 ho10 hc10 _
        exact ⟨_, _, _, rfl, (a10, ln' + 1, c10, (j : Int) + 1), ⟨rfl, by rw [i64w _ (by omega) (by omega)], trivial⟩, ⟨j + 1, ls ++ [u], by dsimp only; omega, by omega, by dsimp only; rw [hlt', List.length_append, hln]; rfl, ho10, by rw [hlt']; exact hV5.append (.cons hown .nil), hno', chg_own (hc5.trans hc59) (Nat.le_refl _) (own_none ho5 hc59) hc10⟩, by dsimp only; omega⟩
  rw [if_neg (by simpa using hlt)]
  have hjl : j = g.length := by omega
  rw [hjl, List.take_length] at hln hV5 hno
  have hrow2 : rowS v.op (plainL ks) nothing all alone = joinS v.op (leftOf g nothing) (alone nothing) := by
    rw [hrow, if_neg]
    rintro ⟨h0, h1⟩
    rw [hno h0] at h1
    cases h1
  have hcap := own_cap ho5
  have hrd5 := own_reads' ho5
  have hat5 := own_at ho5
  have hwh5 := own_whole ho5
  clear hrow
  match hleft : leftOf g nothing, hln, hV5 with
  | [], hln, hV5 =>
    have h0 : ln' = 0 := hln
    subst h0
    rw [if_pos (by decide)]
    refine Calls.then (hal w5 nothing hn) ?_
    rintro r wA ⟨uA, rfl, huA, hcA⟩
    refine agg4 ?_
    have zA := hcA.size
    refine set4 uA ((hZ5).keep hcA) rfl ?_
    intro wB hMB hcB
    refine get4 hMB ?_
    refine ⟨uA, rfl, ?_, hMB.2.1⟩
    rw [hrow2, hleft]
    exact huA.keep hcB (fun b hb e => by have : b = w1.heap.size := e; omega) fun b hb => by omega
  | [k], hln, .cons (v := u) hu .nil =>
    have h0 : ln' = 1 := hln
    subst h0
    rw [if_neg (by decide), if_pos (by decide)]
    obtain ⟨A, hA, q0, q1, q2, q3⟩ := reads4 (j := 0) hrd5 rfl
    rw [hA, wSome_some]
    rw [Nat.zero_mul] at q0 q1 q2 q3
    refine ⟨by omega, by decide, _, q0, _, q1, _, q2, _, _, _, q3, ?_⟩
    refine set4 u hZ5 rfl ?_
    intro wB hMB hcB
    refine get4 hMB ?_
    refine ⟨u, rfl, ?_, hMB.2.1⟩
    rw [hrow2, hleft]
    exact (hu.keepN hc5).keep hcB (fun b hb e => by have : b = w1.heap.size := e; omega) fun b hb => by omega
  | k :: k2 :: l, hln, hV5 =>
    have h0 : ln' = l.length + 2 := hln
    rw [if_neg (by simp [h0]; omega), if_neg (by simp [h0]; omega)]
    refine ⟨_, (mine_cell hP5 0).trans rfl, ?_⟩
    refine set4 ⟨v.op, 0, 0, la', ln', lc'⟩ hZ5 rfl ?_
    intro wB hMB hcB
    refine get4 hMB ?_
    refine ⟨⟨v.op, 0, 0, la', ln', lc'⟩, rfl, ?_, hMB.2.1⟩
    rw [hrow2, hleft]
    refine own_mk ⟨hrng.1, hrng.2.1, by omega, by omega, by omega, by omega⟩ hln hcap.1 hcap.2 (us := ls) ((hV5.keepN hc5).keep hcB (fun b hb e => by have : b = w1.heap.size := e; omega) fun b hb => by omega) (hrd5.chg hcB fun A hA e => by have := hat5 A hA; have : A.block = w1.heap.size := e; omega) fun A hA => ⟨by have := hat5 A hA; omega, (hwh5 A hA).chg hcB fun e => by have := hat5 A hA; have : A.block = w1.heap.size := e; omega⟩
theorem Row44_ok {w : World} {op f n : Int} {ks : List Tm} {v : V4} {p : Bool} {nothing all : Int} (ih : ∀ k ∈ ks, PPlain k) (hv : v.is w (.mk op f n ks)) (hr : ∀ k ∈ ks, rightS k p = true) (hsz : lsize ks ≤ 1000000) (hpl : lsize (plainL ks) ≤ lsize ks)
    (hg6 : ∀ x ∈ gatherS op (plainL ks), opS x = 6 → kidsS x ≠ []) (hn : -128 ≤ nothing ∧ nothing ≤ 127) (ha : -128 ≤ all ∧ all ≤ 127) :
    Calls Try.prog 43 #[.agg v.arr, .int .i8 nothing, .int .i8 all, .func (.func 44) #[] #[]] w (endW (RetT w (rowS op (plainL ks) nothing all bareS)) (fun _ _ => False)) :=
  F43x44_calls v.op v.f v.n v.b v.m v.c nothing all (by rw [F43x44_g]; exact RowG (fun w x h => Bare_ok w h) ih hv hr hsz hpl hg6 hn ha)
theorem Row45_ok {w : World} {op f n : Int} {ks : List Tm} {v : V4} {p : Bool} {nothing all : Int} (ih : ∀ k ∈ ks, PPlain k) (hv : v.is w (.mk op f n ks)) (hr : ∀ k ∈ ks, rightS k p = true) (hsz : lsize ks ≤ 1000000) (hpl : lsize (plainL ks) ≤ lsize ks)
    (hg6 : ∀ x ∈ gatherS op (plainL ks), opS x = 6 → kidsS x ≠ []) (hn : -128 ≤ nothing ∧ nothing ≤ 127) (ha : -128 ≤ all ∧ all ≤ 127) :
    Calls Try.prog 43 #[.agg v.arr, .int .i8 nothing, .int .i8 all, .func (.func 45) #[] #[]] w (endW (RetT w (rowS op (plainL ks) nothing all filS)) (fun _ _ => False)) :=
  F43x45_calls v.op v.f v.n v.b v.m v.c nothing all (by rw [F43x45_g]; exact RowG (fun w x h => Filter_ok w h) ih hv hr hsz hpl hg6 hn ha)

end Go.Proofs.Ytbpckcmejkcciaa.B
