/-
  Policies: what is right, by the program.
-/
import Derived.Test.YtbpckcmejkcciaaPolE
set_option linter.unusedVariables false
set_option linter.unusedSimpArgs false
namespace Go.Proofs.Ytbpckcmejkcciaa.B
open Go Go.Proofs Go.Proofs.YtbpckcmejkcciaaEng

/-- the program's table, cell by cell -/
abbrev tableL : List Value := [.int .i64 0, .int .i64 0, .bool false, .bool true, .bool false, .int .i64 0, .int .i64 0, .bool false, .bool true, .bool false, .int .i64 0, .int .i64 0, .bool false, .bool true, .bool true, .int .i64 1, .int .i64 1, .bool true, .bool true, .bool false, .int .i64 1, .int .i64 (-1), .bool true, .bool true, .bool false, .int .i64 1, .int .i64 (-1), .bool true, .bool true, .bool false, .int .i64 1, .int .i64 1, .bool true, .bool false, .bool false, .int .i64 0, .int .i64 0, .bool false, .bool false, .bool true, .int .i64 1, .int .i64 (-1), .bool false, .bool false, .bool false, .int .i64 1, .int .i64 (-1), .bool false, .bool false, .bool false, .int .i64 1, .int .i64 1, .bool false, .bool false, .bool false]
set_option maxRecDepth 20000 in
theorem Table_ok (w : World) : Calls Try.prog 37 #[] w (endW (fun v w' => v = .agg (List.toArray tableL) ∧ Chg NoS w w') (fun _ _ => False)) := by
  refine F37_calls ?_
  delta F37
  simp only [addK_lit, Nat.zero_add]
  refine Mine.set (mine_alloc (Chg.refl NoS w) _ _) (by simp) rfl ?_
  intro w1 h1
  refine Mine.set h1 (by simp) rfl ?_
  intro w2 h2
  refine Mine.set h2 (by simp) rfl ?_
  intro w3 h3
  refine Mine.set h3 (by simp) rfl ?_
  intro w4 h4
  refine Mine.set h4 (by simp) rfl ?_
  intro w5 h5
  refine Mine.set h5 (by simp) rfl ?_
  intro w6 h6
  refine Mine.set h6 (by simp) rfl ?_
  intro w7 h7
  refine Mine.set h7 (by simp) rfl ?_
  intro w8 h8
  refine Mine.set h8 (by simp) rfl ?_
  intro w9 h9
  refine Mine.set h9 (by simp) rfl ?_
  intro w10 h10
  refine Mine.set h10 (by simp) rfl ?_
  intro w11 h11
  refine Mine.set h11 (by simp) rfl ?_
  intro w12 h12
  refine Mine.set h12 (by simp) rfl ?_
  intro w13 h13
  refine Mine.set h13 (by simp) rfl ?_
  intro w14 h14
  refine Mine.set h14 (by simp) rfl ?_
  intro w15 h15
  refine Mine.set h15 (by simp) rfl ?_
  intro w16 h16
  refine Mine.set h16 (by simp) rfl ?_
  intro w17 h17
  refine Mine.set h17 (by simp) rfl ?_
  intro w18 h18
  refine Mine.set h18 (by simp) rfl ?_
  intro w19 h19
  refine Mine.set h19 (by simp) rfl ?_
  intro w20 h20
  refine Mine.set h20 (by simp) rfl ?_
  intro w21 h21
  refine Mine.set h21 (by simp) rfl ?_
  intro w22 h22
  refine Mine.set h22 (by simp) rfl ?_
  intro w23 h23
  refine Mine.set h23 (by simp) rfl ?_
  intro w24 h24
  refine Mine.set h24 (by simp) rfl ?_
  intro w25 h25
  refine Mine.set h25 (by simp) rfl ?_
  intro w26 h26
  refine Mine.set h26 (by simp) rfl ?_
  intro w27 h27
  refine Mine.set h27 (by simp) rfl ?_
  intro w28 h28
  refine Mine.set h28 (by simp) rfl ?_
  intro w29 h29
  refine Mine.set h29 (by simp) rfl ?_
  intro w30 h30
  refine Mine.set h30 (by simp) rfl ?_
  intro w31 h31
  refine Mine.set h31 (by simp) rfl ?_
  intro w32 h32
  refine Mine.set h32 (by simp) rfl ?_
  intro w33 h33
  refine Mine.set h33 (by simp) rfl ?_
  intro w34 h34
  refine Mine.set h34 (by simp) rfl ?_
  intro w35 h35
  refine Mine.set h35 (by simp) rfl ?_
  intro w36 h36
  refine Mine.set h36 (by simp) rfl ?_
  intro w37 h37
  refine Mine.set h37 (by simp) rfl ?_
  intro w38 h38
  refine Mine.set h38 (by simp) rfl ?_
  intro w39 h39
  refine Mine.set h39 (by simp) rfl ?_
  intro w40 h40
  refine Mine.set h40 (by simp) rfl ?_
  intro w41 h41
  refine Mine.set h41 (by simp) rfl ?_
  intro w42 h42
  refine Mine.set h42 (by simp) rfl ?_
  intro w43 h43
  refine Mine.set h43 (by simp) rfl ?_
  intro w44 h44
  refine Mine.set h44 (by simp) rfl ?_
  intro w45 h45
  refine Mine.set h45 (by simp) rfl ?_
  intro w46 h46
  refine Mine.set h46 (by simp) rfl ?_
  intro w47 h47
  refine Mine.set h47 (by simp) rfl ?_
  intro w48 h48
  refine Mine.set h48 (by simp) rfl ?_
  intro w49 h49
  refine Mine.set h49 (by simp) rfl ?_
  intro w50 h50
  refine Mine.set h50 (by simp) rfl ?_
  intro w51 h51
  refine Mine.set h51 (by simp) rfl ?_
  intro w52 h52
  refine Mine.set h52 (by simp) rfl ?_
  intro w53 h53
  refine Mine.set h53 (by simp) rfl ?_
  intro w54 h54
  refine Mine.set h54 (by simp) rfl ?_
  intro w55 h55
  exact ⟨_, (h55.cell 0).trans rfl, _, (h55.cell 1).trans rfl, _, (h55.cell 2).trans rfl, _, (h55.cell 3).trans rfl, _, (h55.cell 4).trans rfl, _, (h55.cell 5).trans rfl, _, (h55.cell 6).trans rfl, _, (h55.cell 7).trans rfl, _, (h55.cell 8).trans rfl, _, (h55.cell 9).trans rfl, _, (h55.cell 10).trans rfl, _, (h55.cell 11).trans rfl, _, (h55.cell 12).trans rfl, _, (h55.cell 13).trans rfl, _, (h55.cell 14).trans rfl, _, (h55.cell 15).trans rfl, _, (h55.cell 16).trans rfl, _, (h55.cell 17).trans rfl, _, (h55.cell 18).trans rfl, _, (h55.cell 19).trans rfl, _, (h55.cell 20).trans rfl, _, (h55.cell 21).trans rfl, _, (h55.cell 22).trans rfl, _, (h55.cell 23).trans rfl, _, (h55.cell 24).trans rfl, _, (h55.cell 25).trans rfl, _, (h55.cell 26).trans rfl, _, (h55.cell 27).trans rfl, _, (h55.cell 28).trans rfl, _, (h55.cell 29).trans rfl, _, (h55.cell 30).trans rfl, _, (h55.cell 31).trans rfl, _, (h55.cell 32).trans rfl, _, (h55.cell 33).trans rfl, _, (h55.cell 34).trans rfl, _, (h55.cell 35).trans rfl, _, (h55.cell 36).trans rfl, _, (h55.cell 37).trans rfl, _, (h55.cell 38).trans rfl, _, (h55.cell 39).trans rfl, _, (h55.cell 40).trans rfl, _, (h55.cell 41).trans rfl, _, (h55.cell 42).trans rfl, _, (h55.cell 43).trans rfl, _, (h55.cell 44).trans rfl, _, (h55.cell 45).trans rfl, _, (h55.cell 46).trans rfl, _, (h55.cell 47).trans rfl, _, (h55.cell 48).trans rfl, _, (h55.cell 49).trans rfl, _, (h55.cell 50).trans rfl, _, (h55.cell 51).trans rfl, _, (h55.cell 52).trans rfl, _, (h55.cell 53).trans rfl, _, (h55.cell 54).trans rfl, rfl, h55.2.1⟩

/-- what an Op wants: so many kids at least, at most; of predicates; is it one; has it a field -/
def wantsS (op : Int) : Int × Int × Bool × Bool × Bool := if op = 0 ∨ op = 1 then (0, 0, false, true, false) else if op = 2 then (0, 0, false, true, true) else if op = 3 then (1, 1, true, true, false) else if op = 4 ∨ op = 5 then (1, -1, true, true, false)
  else if op = 6 then (1, 1, true, false, false) else if op = 7 then (0, 0, false, false, true) else if op = 8 ∨ op = 9 then (1, -1, false, false, false) else (1, 1, false, false, false)
theorem index_table {op : Int} (h0 : 0 ≤ op) (h10 : op ≤ 10) {w : World} {K : Value → World → Prop} {E : PanW} (hK : K (.agg (List.toArray [.int .i64 (wantsS op).1, .int .i64 (wantsS op).2.1, .bool (wantsS op).2.2.1, .bool (wantsS op).2.2.2.1, .bool (wantsS op).2.2.2.2])) w) :
    runV Try.prog (Instr.index 62 (.agg (List.toArray tableL)) (.int .i8 op)) w K E := by
  obtain ⟨k, rfl⟩ := Int.eq_ofNat_of_zero_le h0
  have hk : k < 11 := by omega
  match k, hk with
  | 0, _ => exact runV_of_ok (by kernel_rfl) hK
  | 1, _ => exact runV_of_ok (by kernel_rfl) hK
  | 2, _ => exact runV_of_ok (by kernel_rfl) hK
  | 3, _ => exact runV_of_ok (by kernel_rfl) hK
  | 4, _ => exact runV_of_ok (by kernel_rfl) hK
  | 5, _ => exact runV_of_ok (by kernel_rfl) hK
  | 6, _ => exact runV_of_ok (by kernel_rfl) hK
  | 7, _ => exact runV_of_ok (by kernel_rfl) hK
  | 8, _ => exact runV_of_ok (by kernel_rfl) hK
  | 9, _ => exact runV_of_ok (by kernel_rfl) hK
  | 10, _ => exact runV_of_ok (by kernel_rfl) hK

def combS (op f n : Int) (len : Nat) (ks : Bool → Bool) (pred : Bool) (x : Int × Int × Bool × Bool × Bool) : Bool :=
  if x.2.2.2.1 ≠ pred ∨ (len : Int) < x.1 ∨ (0 ≤ x.2.1 ∧ x.2.1 < (len : Int)) then false else if x.2.2.2.2 = true then fieldS op f n else if f ≠ 0 ∨ n ≠ 0 then false else ks x.2.2.1
theorem right_comb {op f n : Int} {ks : List Tm} {pred : Bool} (h0 : 0 ≤ op) (h10 : op ≤ 10) : rightS (.mk op f n ks) pred = combS op f n ks.length (allS ks) pred (wantsS op) := by
  have hnil : ks.length = 0 → ∀ p, allS ks p = true := fun h p => by rw [List.length_eq_zero_iff.1 h]; rfl
  obtain ⟨k, rfl⟩ := Int.eq_ofNat_of_zero_le h0
  have hk : k < 11 := by omega
  have key : ∀ (a b : Bool), (a = true ↔ b = true) → a = b := fun a b h => by cases a <;> cases b <;> simp_all
  simp only [rightS]
  generalize ks.length = L at *
  generalize allS ks = C at *
  clear ks
  match k, hk with
  | 0, _ =>
    apply key
    simp [combS, wantsS, fieldS_is, fieldS_set]
    cases pred <;> by_cases hl : L = 0 <;> by_cases hf : f = 0 <;> by_cases hn : n = 0 <;> by_cases hl1 : L = 1 <;> simp [hl, hl1, hf, hn, hnil, and_assoc] <;> first | omega | skip
  | 1, _ =>
    apply key
    simp [combS, wantsS, fieldS_is, fieldS_set]
    cases pred <;> by_cases hl : L = 0 <;> by_cases hf : f = 0 <;> by_cases hn : n = 0 <;> by_cases hl1 : L = 1 <;> simp [hl, hl1, hf, hn, hnil, and_assoc] <;> first | omega | skip
  | 2, _ =>
    apply key
    simp [combS, wantsS, fieldS_is, fieldS_set]
    cases pred <;> by_cases hl : L = 0 <;> by_cases hf : f = 0 <;> by_cases hn : n = 0 <;> by_cases hl1 : L = 1 <;> simp [hl, hl1, hf, hn, hnil, and_assoc] <;> first | omega | skip
  | 3, _ =>
    apply key
    simp [combS, wantsS, fieldS_is, fieldS_set]
    cases pred <;> by_cases hl : L = 0 <;> by_cases hf : f = 0 <;> by_cases hn : n = 0 <;> by_cases hl1 : L = 1 <;> simp [hl, hl1, hf, hn, hnil, and_assoc] <;> first | omega | skip
  | 4, _ =>
    apply key
    simp [combS, wantsS, fieldS_is, fieldS_set]
    cases pred <;> by_cases hl : L = 0 <;> by_cases hf : f = 0 <;> by_cases hn : n = 0 <;> by_cases hl1 : L = 1 <;> simp [hl, hl1, hf, hn, hnil, and_assoc] <;> first | omega | skip
  | 5, _ =>
    apply key
    simp [combS, wantsS, fieldS_is, fieldS_set]
    cases pred <;> by_cases hl : L = 0 <;> by_cases hf : f = 0 <;> by_cases hn : n = 0 <;> by_cases hl1 : L = 1 <;> simp [hl, hl1, hf, hn, hnil, and_assoc] <;> first | omega | skip
  | 6, _ =>
    apply key
    simp [combS, wantsS, fieldS_is, fieldS_set]
    cases pred <;> by_cases hl : L = 0 <;> by_cases hf : f = 0 <;> by_cases hn : n = 0 <;> by_cases hl1 : L = 1 <;> simp [hl, hl1, hf, hn, hnil, and_assoc] <;> first | omega | skip
  | 7, _ =>
    apply key
    simp [combS, wantsS, fieldS_is, fieldS_set]
    cases pred <;> by_cases hl : L = 0 <;> by_cases hf : f = 0 <;> by_cases hn : n = 0 <;> by_cases hl1 : L = 1 <;> simp [hl, hl1, hf, hn, hnil, and_assoc] <;> first | omega | skip
  | 8, _ =>
    apply key
    simp [combS, wantsS, fieldS_is, fieldS_set]
    cases pred <;> by_cases hl : L = 0 <;> by_cases hf : f = 0 <;> by_cases hn : n = 0 <;> by_cases hl1 : L = 1 <;> simp [hl, hl1, hf, hn, hnil, and_assoc] <;> first | omega | skip
  | 9, _ =>
    apply key
    simp [combS, wantsS, fieldS_is, fieldS_set]
    cases pred <;> by_cases hl : L = 0 <;> by_cases hf : f = 0 <;> by_cases hn : n = 0 <;> by_cases hl1 : L = 1 <;> simp [hl, hl1, hf, hn, hnil, and_assoc] <;> first | omega | skip
  | 10, _ =>
    apply key
    simp [combS, wantsS, fieldS_is, fieldS_set]
    cases pred <;> by_cases hl : L = 0 <;> by_cases hf : f = 0 <;> by_cases hn : n = 0 <;> by_cases hl1 : L = 1 <;> simp [hl, hl1, hf, hn, hnil, and_assoc] <;> first | omega | skip

def RT (a0_t : Option Addr) (a1_pred : Bool) (g : Nat) (w6 : World) (R : Value → World → Prop) : Prop :=
  wSome a0_t fun (A : Addr) => ∃ (a : Option Addr), ∃ (n : Nat), ∃ (c : Nat), World.cell? w6 (addK A (3 : Nat)) = Option.some (Value.slice a n c) ∧ ∃ (J : (Unit) → World → Prop), (∀ (s : (Unit)) (w : World), J s w → ∀ (junk : Env), wSome a0_t fun (A : Addr) => ∃ (a : Option Addr), ∃ (n : Nat), ∃ (c : Nat), World.cell? w (addK A (3 : Nat)) = Option.some (Value.slice a n c) ∧ ∃ (I : (Int) → World → Prop), ∃ (μ : (Int) → World → Nat), (∃ (s : (Int)), (Value.int IntKind.i64 s = Value.int IntKind.i64 (0 : Int) ∧ True) ∧ I s w) ∧ ∀ (s : (Int)) (w : World), I s w → ∀ (junk : Env), if Decidable.decide (s < (↑n : Int)) = Bool.true then wSome a0_t fun (A : Addr) => ∃ (a : Option Addr), ∃ (n : Nat), ∃ (c : Nat), World.cell? (World.drew w) (addK A (3 : Nat)) = Option.some (Value.slice a n c) ∧ (0 : Int) ≤ s ∧ s < (↑n : Int) ∧ wSome a fun (A : Addr) => ∃ (b : Bool), World.cell? (World.drew w) (addK { block := g, off := (0 : Nat) } (2 : Nat)) = Option.some (Value.bool b) ∧ Calls Try.prog (25 : Nat) #[Value.pointer (Option.some (addK A (Int.toNat s * (4 : Nat)))), Value.bool b] (World.drew w) (endW (fun (v : Value) (w' : World) => ∃ (b : Bool), v = Value.bool b ∧ if (!b) = Bool.true then R (Value.bool Bool.false) w' else ∃ (s' : (Int)), (Value.int IntKind.i64 s' = Value.int IntKind.i64 (IntKind.wrap IntKind.i64 (s + (1 : Int))) ∧ True) ∧ I s' w' ∧ μ s' w' < μ s w) fun (_ : List PanicEntry) (_ : World) => False) else R (Value.bool Bool.true) w) ∧ ∃ (J_1 : (Bool) → World → Prop), (∀ (s : (Bool)) (w : World), J_1 s w → ∀ (junk : Env), if s = Bool.true then R (Value.bool Bool.false) w else ∃ (b : Bool), World.cell? w (addK { block := g, off := (0 : Nat) } (4 : Nat)) = Option.some (Value.bool b) ∧ if b = Bool.true then Calls Try.prog (38 : Nat) #[Value.pointer a0_t] w (endW (fun (v : Value) (w' : World) => ∃ (b : Bool), v = Value.bool b ∧ R (Value.bool b) w') fun (_ : List PanicEntry) (_ : World) => False) else wSome a0_t fun (A : Addr) => ∃ (x : Int), World.cell? w (addK A (1 : Nat)) = Option.some (Value.int IntKind.i8 x) ∧ if (x != (0 : Int)) = Bool.false then wSome a0_t fun (A : Addr) => ∃ (x : Int), World.cell? w (addK A (2 : Nat)) = Option.some (Value.int IntKind.u64 x) ∧ if (x != (0 : Int)) = Bool.true then R (Value.bool Bool.false) w else ∃ (s : (Unit)), True ∧ J s w else R (Value.bool Bool.false) w) ∧ ∃ (b : Bool), World.cell? w6 (addK { block := g, off := (0 : Nat) } (3 : Nat)) = Option.some (Value.bool b) ∧ if (!b == a1_pred) = Bool.true then ∃ (s : (Bool)), (Value.bool s = Value.bool !b == a1_pred ∧ True) ∧ J_1 s w6 else ∃ (x : Int), World.cell? w6 (addK { block := g, off := (0 : Nat) } (0 : Nat)) = Option.some (Value.int IntKind.i64 x) ∧ if Decidable.decide ((↑n : Int) < x) = Bool.true then ∃ (s : (Bool)), (Value.bool s = Value.bool (Decidable.decide ((↑n : Int) < x)) ∧ True) ∧ J_1 s w6 else ∃ (x : Int), World.cell? w6 (addK { block := g, off := (0 : Nat) } (1 : Nat)) = Option.some (Value.int IntKind.i64 x) ∧ if Decidable.decide (x ≥ (0 : Int)) = Bool.true then ∃ (x : Int), World.cell? w6 (addK { block := g, off := (0 : Nat) } (1 : Nat)) = Option.some (Value.int IntKind.i64 x) ∧ ∃ (s : (Bool)), (Value.bool s = Value.bool (Decidable.decide ((↑n : Int) > x)) ∧ True) ∧ J_1 s w6 else ∃ (s : (Bool)), (Value.bool s = Value.bool Bool.false ∧ True) ∧ J_1 s w6
end Go.Proofs.Ytbpckcmejkcciaa.B
