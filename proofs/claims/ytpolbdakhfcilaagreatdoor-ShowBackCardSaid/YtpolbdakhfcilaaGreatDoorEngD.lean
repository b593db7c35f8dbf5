/-
  A clean form of the walk, fourth part: one operation, with memory and calls.
-/
import Derived.Test.YtpolbdakhfcilaaGreatDoorEngC
namespace Go.Proofs.YtpolbdakhfcilaaGreatDoorEng
open Go
set_option linter.unusedSimpArgs false
set_option linter.unusedVariables false
variable {P : Program}

abbrev PanW := List PanicEntry → World → Prop
/-- a run that makes a value, or panics -/
def runV (P : Program) (s : Sem Value) (w : World) (K : Value → World → Prop) (E : PanW) : Prop := match s.run P w with
  | .ok v w' => K v w'
  | .halt (.panic v) w' => E [{ v := v, recovered := false }] w'
  | _ => False
def runU (P : Program) (s : Sem Unit) (w : World) (K : World → Prop) (E : PanW) : Prop := match s.run P w with
  | .ok _ w' => K w'
  | .halt (.panic v) w' => E [{ v := v, recovered := false }] w'
  | _ => False
/-- a call's end -/
def endW (R : Value → World → Prop) (E : PanW) : Ending → World → Prop
  | .returned v, w => R v w
  | .panicked c, w => E c w
  | .outgrown, _ => False
def shape1 (z v : Value) (K : Value → Prop) : Prop := match z with
  | .int k _ => ∃ x, v = .int k x ∧ K (.int k x)
  | .bool _ => ∃ b, v = .bool b ∧ K (.bool b)
  | .string _ => ∃ s, v = .string s ∧ K (.string s)
  | .pointer _ => ∃ p, v = .pointer p ∧ K (.pointer p)
  | .slice .. => ∃ a n c, v = .slice a n c ∧ K (.slice a n c)
  | .map _ => ∃ r, v = .map r ∧ K (.map r)
  | _ => K v
def shapeL : List Value → List Value → (List Value → Prop) → Prop
  | [], vs, K => vs = [] ∧ K []
  | z :: zs, vs, K => ∃ v rest, vs = v :: rest ∧ shape1 z v fun v => shapeL zs rest fun l => K (v :: l)
def shapeA (z v : Value) (K : Value → Prop) : Prop := match z with
  | .agg cs => ∃ vs : List Value, v = .agg vs.toArray ∧ shapeL cs.toList vs fun l => K (.agg l.toArray)
  | z => shape1 z v K
def shapeT : List Value → List Value → (List Value → Prop) → Prop
  | [], vs, K => vs = [] ∧ K []
  | z :: zs, vs, K => ∃ v rest, vs = v :: rest ∧ shapeA z v fun v => shapeT zs rest fun l => K (v :: l)
def shapeW (z v : Value) (K : Value → Prop) : Prop := match z with
  | .tuple zs => ∃ vs : List Value, v = .tuple vs.toArray ∧ shapeT zs.toList vs fun l => K (.tuple l.toArray)
  | z => shapeA z v K
def resW (zs : List Value) (v : Value) (K : Value → Prop) : Prop := match zs with
  | [] => K v
  | [z] => shapeA z v K
  | zs => ∃ vs : List Value, v = .tuple vs.toArray ∧ shapeT zs vs fun l => K (.tuple l.toArray)
def zeroOfT (P : Program) (t : TypeId) : Value := match (P.info? t).bind (·.zero) with
  | some z => z
  | none => undef
def resZeros (P : Program) (g : FuncId) : List Value := match P.funcs[g]? with
  | some fn => fn.resultTypes.toList.map (zeroOfT P)
  | none => []
def callsW (P : Program) (g : FuncId) (args : List Value) (w : World) (K : Value → World → Prop) (E : PanW) : Prop :=
  Calls P g args.toArray w (endW (fun v w' => resW (resZeros P g) v fun v => K v w') E)
def hasBody (P : Program) (g : FuncId) : Bool := match P.funcs[g]? with
  | some fn => fn.body.isSome && !(fn.name == "runtime.NumGoroutine")
  | none => false

def cellW (z : Value) (w : World) (A : Addr) (K : Value → Prop) : Prop := match z with
  | .int k _ => ∃ x, w.cell? A = some (.int k x) ∧ K (.int k x)
  | .bool _ => ∃ b, w.cell? A = some (.bool b) ∧ K (.bool b)
  | .string _ => ∃ s, w.cell? A = some (.string s) ∧ K (.string s)
  | .pointer _ => ∃ p, w.cell? A = some (.pointer p) ∧ K (.pointer p)
  | .slice .. => ∃ a n c, w.cell? A = some (.slice a n c) ∧ K (.slice a n c)
  | .map _ => ∃ r, w.cell? A = some (.map r) ∧ K (.map r)
  | _ => ∃ v, w.cell? A = some v ∧ K v
/-- which closures lie in variables of a function type (a hint of the seat's: its number, how many variables it holds) -/
def fnHint (t : TypeId) : List (Nat × Nat) := match t with
  | 105 => [(52, 2)]
  | 129 => [(85, 1), (87, 1), (88, 1)]
  | 51 => [(14, 1)]
  | 56 => [(15, 3)]
  | _ => []
def capsW : Nat → (List Value → Prop) → Prop
  | 0, K => K []
  | k + 1, K => ∃ c : Option Addr, capsW k fun l => K (.pointer c :: l)
def fnW (w : World) (A : Addr) (K : Value → Prop) (gk : Nat × Nat) : Prop := capsW gk.2 fun l => w.cell? A = some (.func (.func gk.1) #[] l.toArray) ∧ K (.func (.func gk.1) #[] l.toArray)
def fnsW (w : World) (A : Addr) (K : Value → Prop) : List (Nat × Nat) → Prop
  | [] => False
  | gk :: l => (match l with
    | [] => fnW w A K gk
    | _ :: _ => fnW w A K gk ∨ fnsW w A K l)
def cellT (t : TypeId) (z : Value) (w : World) (A : Addr) (K : Value → Prop) : Prop := match fnHint t with
  | [] => cellW z w A K
  | gk :: l => fnsW w A K (gk :: l)
def cellsW : List Value → World → Addr → Nat → (List Value → Prop) → Prop
  | [], _, _, _, K => K []
  | z :: zs, w, A, i, K => cellW z w (addK A i) fun v => cellsW zs w A (i + 1) fun l => K (v :: l)
def loadW (P : Program) (t : TypeId) (p : Value) (w : World) (K : Value → Prop) : Prop := match (P.info? t).bind (·.zero) with
  | some z => if isAggT P t then (if sizeOfT P t = z.cells.size then wPtr p fun A => cellsW z.cells.toList w A 0 fun l => K (.agg l.toArray) else False)
    else (if kindOf P t = 0 then False else wPtr p fun A => cellT t z w A K)
  | none => False
def oneC : Value → Bool
  | .agg _ => false
  | .tuple _ => false
  | _ => true
def setW (w : World) (A : Addr) (v : Value) (K : World → Prop) : Prop := oneC v = true ∧ (w.cell? A).isSome = true ∧ w.frozen? A = false ∧ K (w.setCell A v)
def setsW : List Value → World → Addr → Nat → (World → Prop) → Prop
  | [], w, _, _, K => K w
  | v :: vs, w, A, i, K => setW w (addK A i) v fun w => setsW vs w A (i + 1) K
def storeW (P : Program) (t : TypeId) (p x : Value) (w : World) (K : World → Prop) : Prop := match P.info? t with
  | some i => if isAggT P t then (if x.cells.size = i.size then wPtr p fun A => setsW x.cells.toList w A 0 K else False) else (if i.size = 1 then wPtr p fun A => setW w A x K else False)
  | none => False
def allocW (P : Program) (t : TypeId) (w : World) (K : Value → World → Prop) : Prop := match (P.info? t).bind (·.zero) with
  | some z => K (.pointer (some ⟨w.heap.size, 0, none⟩)) (w.alloc (.cells z.cells t))
  | none => False
def boxW (t : TypeId) (x : Value) (w : World) (K : Value → World → Prop) : Prop := K (.pointer (some ⟨w.heap.size, 0, none⟩)) (w.alloc (.cells x.cells t))
def rowCells (z : Array Value) (len size : Nat) (parts : List (Nat × Value)) : Option (Array Value) :=
  Instr.fill (fun i => some (i * size, size)) ((Array.range (len * size)).map (z[· % z.size]!)) parts
def buildSliceW (P : Program) (t : TypeId) (len : Nat) (parts : List (Nat × Value)) (w : World) (K : Value → World → Prop) : Prop :=
  if kindOf P t = 5 ∧ hasInfo P (elemOfT P t) ∧ len * sizeOfT P (elemOfT P t) ≤ 2 ^ 24 then
    (if len * sizeOfT P (elemOfT P t) = 0 then (match rowCells #[] len (sizeOfT P (elemOfT P t)) parts with
      | some cs => K (.slice (some ⟨w.heap.size, 0, none⟩) len len) (w.alloc (.cells cs (elemOfT P t)))
      | none => False)
    else (match (P.info? (elemOfT P t)).bind (·.zero) with
      | some z => (match rowCells z.cells len (sizeOfT P (elemOfT P t)) parts with
        | some cs => K (.slice (some ⟨w.heap.size, 0, none⟩) len len) (w.alloc (.cells cs (elemOfT P t)))
        | none => False)
      | none => False))
  else False

/-- what a step of 'range' tells -/
def nextW (s : Bool) (v : Value) (K : Value → Prop) : Prop := match s with
  | true => (v = .tuple #[.bool false] ∧ K (.tuple #[.bool false])) ∨ ∃ i c : Int, v = .tuple #[.bool true, .int .i64 i, .int .i32 c] ∧ K (.tuple #[.bool true, .int .i64 i, .int .i32 c])
  | false => (v = .tuple #[.bool false] ∧ K (.tuple #[.bool false])) ∨ ∃ k x : Value, v = .tuple #[.bool true, k, x] ∧ K (.tuple #[.bool true, k, x])
/-- the types of the key and the value of a map that a loop at a place of the text goes over (a hint of the seat's) -/
def entryHint (p : String) : Option (TypeId × TypeId) :=
  none
def entryW (P : Program) (p : String) (v : Value) (K : Value → Prop) : Prop := match entryHint p with
  | some kt => ∃ vs : List Value, v = .tuple vs.toArray ∧ shapeT [zeroOfT P kt.1, zeroOfT P kt.2] vs fun l => K (.tuple l.toArray)
  | none => False
/-- what an assertion tells: with two results the translation tells no type of its own -/
def assertW (P : Program) (u : TypeId) (ok : Bool) (t : TypeId) (v : Value) (K : Value → Prop) : Prop := match ok with
  | true => ∃ vs : List Value, v = .tuple vs.toArray ∧ shapeT [zeroOfT P u, .bool false] vs fun l => K (.tuple l.toArray)
  | false => shapeW (zeroOfT P t) v K
def runS (P : Program) (t : TypeId) (s : Sem Value) (w : World) (K : Value → World → Prop) (E : PanW) : Prop :=
  runV P s w (fun v w => shapeW (zeroOfT P t) v fun v => K v w) E
/-- What an operation asks of the world, K behind it. -/
def stepW (P : Program) (r : Operand → Value) (o : Oper) (w : World) (K : Value → World → Prop) (E : PanW) : Prop :=
  if isPure P o.op then pureW P r o.op fun v => K v w else match o.op with
  | .load t a => loadW P t (r a) w fun v => K v w
  | .store t a x => storeW P t (r a) (r x) w fun w => K undef w
  | .alloc t => allocW P t w K
  | .box t x => boxW t (r x) w K
  | .buildSlice t n parts => buildSliceW P t n (parts.toList.map fun p => (p.1, r p.2)) w K
  | .call { callee := .value f, args, argTypes } => (match r f with
    | .func (.func g) first cap => if hasBody P g then callsW P g (first.toList ++ args.toList.map r ++ cap.toList) w K E else False
    | _ => False)
  | .call { callee := .builtin .append, args, argTypes } => runS P o.type (Builtin.append_ argTypes o.type (args.toList.map r).toArray) w K E
  | .call { callee := .builtin .copy, args, argTypes } => runS P o.type (Builtin.copy_ argTypes o.type (args.toList.map r).toArray) w K E
  | .call { callee := .builtin .len, args, argTypes } => runS P o.type (Builtin.len_ argTypes o.type (args.toList.map r).toArray) w K E
  | .call { callee := .builtin .delete, args, argTypes } => runV P (Builtin.delete_ argTypes o.type (args.toList.map r).toArray) w K E
  | .call { callee := .builtin .min, args, argTypes } => runS P o.type (Builtin.min_ argTypes o.type (args.toList.map r).toArray) w K E
  | .call { callee := .builtin .max, args, argTypes } => runS P o.type (Builtin.max_ argTypes o.type (args.toList.map r).toArray) w K E
  | .binOp op t x y _ => runS P o.type (do eqGuard op t x y (r x) (r y); binOp op t (r x) (r y)) w K E
  | .convert s t x => runS P o.type (convert s t (r x)) w K E
  | .index t x i => runS P o.type (Instr.index t (r x) (r i)) w K E
  | .makeMap t n => runS P o.type (Instr.makeMap t (n.map r)) w K E
  | .makeSlice t n c => runS P o.type (Instr.makeSlice t (r n) (r c)) w K E
  | .lookup t x i ok => runS P o.type (Instr.lookup t (r x) (r i) ok) w K E
  | .mapUpdate t m k x => runU P (Instr.mapUpdate t (r m) (r k) (r x)) w (fun w => K undef w) E
  | .insert t m k x => runU P (Instr.mapUpdate t (r m) (r k) (r x)) w (fun w => K undef w) E
  | .mapEntry t m k => runV P (Instr.mapEntry t (r m) (r k)) w K E
  | .entryStore t m s x => runU P (Instr.entryStore t (r m) (r s) (r x)) w (fun w => K undef w) E
  | .range t x => runV P (Instr.range t (r x)) w K E
  | .next it s => runV P (Instr.next (r it) s o.type) w (fun v w => nextW s v fun v => K v w) E
  | .entry it => runV P (Instr.entry (r it)) w (fun v w => entryW P o.pos v fun v => K v w) E
  | .typeAssert x t u ok => runV P (Instr.typeAssert (r x) t u ok) w (fun v w => assertW P u ok o.type v fun v => K v w) E
  | .makeInterface t x => runV P (Instr.makeInterface t (r x)) w K E
  | .panic x => runV P (Instr.panic (r x)) w K E
  | _ => False

theorem runV_step {o : Oper} {a : Act} {w : World} {s : Sem Value} {K : Value → World → Prop} {E : PanW} {next : Act → World → Prop} {Q : Exit → Act → World → Prop}
    (he : execOp a.eval o = (do pure (Next.value (← s)))) (h : runV P s w K E) (hK : ∀ v w', K v w' → next (a.put o.dst v) w') (hE : ∀ c w', E c w' → Q (.panic c) a w') : o.wp P a w next Q := by
  unfold Oper.wp
  rw [he, Sem.run_bind]
  unfold runV at h
  generalize s.run P w = res at h
  cases res with
  | ok v w' => exact hK _ _ h
  | halt x w' => cases x <;> first | exact h.elim | exact hE _ _ h
theorem runU_step {o : Oper} {a : Act} {w : World} {s : Sem Unit} {K : World → Prop} {E : PanW} {next : Act → World → Prop} {Q : Exit → Act → World → Prop}
    (he : execOp a.eval o = (do s; pure Next.skip)) (h : runU P s w K E) (hK : ∀ w', K w' → next (a.put o.dst undef) w') (hE : ∀ c w', E c w' → Q (.panic c) a w') : o.wp P a w next Q := by
  unfold Oper.wp
  rw [he, Sem.run_bind]
  unfold runU at h
  generalize s.run P w = res at h
  cases res with
  | ok v w' => exact hK _ h
  | halt x w' => cases x <;> first | exact h.elim | exact hE _ _ h

theorem shape1_elim {z v : Value} {K : Value → Prop} (h : shape1 z v K) : K v := by
  unfold shape1 at h
  split at h
  all_goals first
    | (obtain ⟨x, rfl, h⟩ := h; exact h)
    | (obtain ⟨x, y, q, rfl, h⟩ := h; exact h)
    | exact h
theorem shapeL_elim : ∀ {zs vs : List Value} {K : List Value → Prop}, shapeL zs vs K → K vs
  | [], vs, K, h => by obtain ⟨h1, h2⟩ := h; subst h1; exact h2
  | z :: zs, vs, K, ⟨v, rest, e, h⟩ => by subst e; exact shapeL_elim (K := fun l => K (v :: l)) (shape1_elim h)
theorem shapeA_elim {z v : Value} {K : Value → Prop} (h : shapeA z v K) : K v := by
  unfold shapeA at h
  split at h
  · obtain ⟨vs, rfl, h⟩ := h; exact shapeL_elim h
  · exact shape1_elim h
theorem shapeT_elim : ∀ {zs vs : List Value} {K : List Value → Prop}, shapeT zs vs K → K vs
  | [], vs, K, h => by obtain ⟨h1, h2⟩ := h; subst h1; exact h2
  | z :: zs, vs, K, ⟨v, rest, e, h⟩ => by subst e; exact shapeT_elim (K := fun l => K (v :: l)) (shapeA_elim h)
theorem shapeW_elim {z v : Value} {K : Value → Prop} (h : shapeW z v K) : K v := by
  unfold shapeW at h
  split at h
  · obtain ⟨vs, rfl, h⟩ := h; exact shapeT_elim h
  · exact shapeA_elim h
theorem resW_elim {zs : List Value} {v : Value} {K : Value → Prop} (h : resW zs v K) : K v := by
  unfold resW at h
  split at h
  · exact h
  · exact shapeA_elim h
  · obtain ⟨vs, rfl, h⟩ := h; exact shapeT_elim h

theorem nextW_elim {s : Bool} {v : Value} {K : Value → Prop} (h : nextW s v K) : K v := by
  unfold nextW at h
  split at h
  · rcases h with ⟨rfl, h⟩ | ⟨i, c, rfl, h⟩ <;> exact h
  · rcases h with ⟨rfl, h⟩ | ⟨i, c, rfl, h⟩ <;> exact h
theorem entryW_elim {p : String} {v : Value} {K : Value → Prop} (h : entryW P p v K) : K v := by
  unfold entryW at h
  split at h
  · obtain ⟨vs, rfl, h⟩ := h
    exact shapeT_elim (K := fun l => K (.tuple l.toArray)) h
  · exact h.elim
theorem assertW_elim {u t : TypeId} {ok : Bool} {v : Value} {K : Value → Prop} (h : assertW P u ok t v K) : K v := by
  unfold assertW at h
  split at h
  · obtain ⟨vs, rfl, h⟩ := h
    exact shapeT_elim (K := fun l => K (.tuple l.toArray)) h
  · exact shapeW_elim h
theorem runS_step {t : TypeId} {o : Oper} {a : Act} {w : World} {s : Sem Value} {K : Value → World → Prop} {E : PanW} {next : Act → World → Prop} {Q : Exit → Act → World → Prop}
    (he : execOp a.eval o = (do pure (Next.value (← s)))) (h : runS P t s w K E) (hK : ∀ v w', K v w' → next (a.put o.dst v) w') (hE : ∀ c w', E c w' → Q (.panic c) a w') : o.wp P a w next Q :=
  runV_step he h (fun v w' hk => hK _ _ (shapeW_elim (K := fun v => K v w') hk)) hE
theorem cellW_elim {z : Value} {w : World} {A : Addr} {K : Value → Prop} (h : cellW z w A K) : ∃ v, w.cell? A = some v ∧ K v := by
  unfold cellW at h
  split at h
  all_goals first
    | (obtain ⟨x, h1, h2⟩ := h; exact ⟨_, h1, h2⟩)
    | (obtain ⟨x, y, q, h1, h2⟩ := h; exact ⟨_, h1, h2⟩)
theorem capsW_elim : ∀ {k : Nat} {K : List Value → Prop}, capsW k K → ∃ l, K l
  | 0, K, h => ⟨[], h⟩
  | k + 1, K, ⟨c, h⟩ => by
    obtain ⟨l, hl⟩ := capsW_elim h
    exact ⟨_, hl⟩
theorem fnsW_elim {w : World} {A : Addr} {K : Value → Prop} : ∀ {l : List (Nat × Nat)}, fnsW w A K l → ∃ v, w.cell? A = some v ∧ K v
  | [], h => h.elim
  | [gk], h => by
    obtain ⟨l, h1, h2⟩ := capsW_elim (show fnW w A K gk from h)
    exact ⟨_, h1, h2⟩
  | gk :: g2 :: l, h => by
    rcases (show fnW w A K gk ∨ fnsW w A K (g2 :: l) from h) with h | h
    · obtain ⟨l, h1, h2⟩ := capsW_elim h
      exact ⟨_, h1, h2⟩
    · exact fnsW_elim h
theorem cellT_elim {t : TypeId} {z : Value} {w : World} {A : Addr} {K : Value → Prop} (h : cellT t z w A K) : ∃ v, w.cell? A = some v ∧ K v := by
  unfold cellT at h
  split at h
  · exact cellW_elim h
  · exact fnsW_elim h
theorem cellsW_elim (P : Program) : ∀ {zs : List Value} {w : World} {A : Addr} {i : Nat} {K : List Value → Prop} (acc : Array Value), cellsW zs w A i K →
    ∃ l, K l ∧ (loadCellsFrom A i zs.length acc).run P w = .ok (acc ++ l.toArray) w
  | [], w, A, i, K, acc, h => ⟨[], h, by simp [loadCellsFrom]⟩
  | z :: zs, w, A, i, K, acc, h => by
    obtain ⟨v, hv, h1⟩ := cellW_elim h
    obtain ⟨l, hl, hr⟩ := cellsW_elim P (acc.push v) h1
    refine ⟨v :: l, hl, ?_⟩
    have hv' : w.cell? (A.add i) = some v := hv
    have hld : (load (A.add i)).run P w = .ok v w := by simp only [load, Sem.run, hv']
    simp [loadCellsFrom, hld, hr]

theorem loadW_run {t : TypeId} {p : Value} {w : World} {K : Value → Prop} (h : loadW P t p w K) : ∃ v, K v ∧ (Instr.loadAt t p).run P w = .ok v w := by
  unfold loadW at h
  split at h
  · rename_i z hz
    obtain ⟨i, hi, hz'⟩ := Option.bind_eq_some_iff.1 hz
    split at h
    · rename_i ha
      split at h
      · rename_i hs
        obtain ⟨A, rfl, h1⟩ := wPtr_elim h
        obtain ⟨l, hl, hr⟩ := cellsW_elim P #[] h1
        refine ⟨_, hl, ?_⟩
        obtain ⟨d, hd⟩ := agg_some ha
        have hsz : i.size = z.cells.size := by rw [← hs]; simp [sizeOfT, hi]
        have hlen : z.cells.toList.length = z.cells.size := by simp
        rw [hlen] at hr
        simp [Instr.loadAt, Instr.sureAddr, loadVar, isAgg_run hd, ha, sizeOf, info_some hi, hsz, loadCells, hr]
      · exact h.elim
    · rename_i ha
      split at h
      · exact h.elim
      · rename_i hk
        obtain ⟨A, rfl, h1⟩ := wPtr_elim h
        obtain ⟨v, hv, h2⟩ := cellT_elim h1
        refine ⟨_, h2, ?_⟩
        obtain ⟨d, hd⟩ := kind_some hk
        have ha' : isAggT P t = false := by simpa using ha
        have hl : (load A).run P w = .ok v w := by simp only [load, Sem.run, hv]
        simp only [Instr.loadAt, Instr.sureAddr, loadVar, Sem.run_bind, Sem.run_pure, Result.andThen, isAgg_run hd, ha']
        exact hl
  · exact h.elim

theorem setW_elim {w : World} {A : Addr} {v : Value} {K : World → Prop} (h : setW w A v K) : K (w.setCell A v) ∧ (store A v).run P w = .ok () (w.setCell A v) ∧ v.cells = #[v] := by
  obtain ⟨h1, h2, h3, h4⟩ := h
  obtain ⟨old, ho⟩ := Option.isSome_iff_exists.1 h2
  refine ⟨h4, ?_, ?_⟩
  · cases v <;> simp [oneC] at h1 <;> simp [store, Sem.run, ho, h3]
  · cases v <;> simp [oneC] at h1 <;> rfl
theorem setsW_elim (P : Program) : ∀ {vs : List Value} {w : World} {A : Addr} {i : Nat} {K : World → Prop}, setsW vs w A i K → ∃ w', K w' ∧ (storeCells A vs i).run P w = .ok () w'
  | [], w, A, i, K, h => ⟨w, h, by simp [storeCells]⟩
  | v :: vs, w, A, i, K, h => by
    obtain ⟨h1, h2, _⟩ := setW_elim (P := P) h
    obtain ⟨w', h3, h4⟩ := setsW_elim P h1
    exact ⟨w', h3, by
      have h2' : (store (A.add i) v).run P w = .ok () (w.setCell (addK A i) v) := h2
      simp [storeCells, h2', h4]⟩
theorem storeW_run {t : TypeId} {p x : Value} {w : World} {K : World → Prop} (h : storeW P t p x w K) : ∃ w', K w' ∧ (Instr.storeAt t p x).run P w = .ok () w' := by
  unfold storeW at h
  split at h
  · rename_i i hi
    split at h
    · split at h
      · rename_i hs
        obtain ⟨A, rfl, h1⟩ := wPtr_elim h
        obtain ⟨w', h2, h3⟩ := setsW_elim P h1
        exact ⟨w', h2, by simp [Instr.storeAt, Instr.sureAddr, storeVar, sizeOf, info_some hi, hs, h3]⟩
      · exact h.elim
    · split at h
      · rename_i hs
        obtain ⟨A, rfl, h1⟩ := wPtr_elim h
        obtain ⟨h2, h3, h4⟩ := setW_elim (P := P) h1
        refine ⟨_, h2, ?_⟩
        have h3' : (store (A.add 0) x).run P w = .ok () (w.setCell A x) := by simpa [Addr.add] using h3
        simp [Instr.storeAt, Instr.sureAddr, storeVar, sizeOf, info_some hi, hs, h4, storeCells, h3']
      · exact h.elim
  · exact h.elim

theorem buildSliceW_run {t : TypeId} {n : Nat} {parts : Array (Nat × Value)} {w : World} {K : Value → World → Prop} (h : buildSliceW P t n parts.toList w K) :
    ∃ v w', K v w' ∧ (Instr.buildSlice t n parts).run P w = .ok v w' := by
  unfold buildSliceW at h
  split at h
  · rename_i hc
    obtain ⟨hk, hi, hl⟩ := hc
    obtain ⟨i, hi1, hi2⟩ := info_of hi
    split at h
    · rename_i h0
      split at h
      · rename_i cs hcs
        refine ⟨_, _, h, ?_⟩
        unfold rowCells at hcs
        simp only [Instr.buildSlice, Sem.run_bind, und_some (kind_slice hk), Result.andThen, size_run hi]
        rw [if_neg (by omega)]
        simp [h0] at hcs ⊢
        rw [hcs]
        rfl
      · exact h.elim
    · rename_i h0
      split at h
      · rename_i z hz
        obtain ⟨i', hi', hz'⟩ := Option.bind_eq_some_iff.1 hz
        split at h
        · rename_i cs hcs
          refine ⟨_, _, h, ?_⟩
          unfold rowCells at hcs
          simp only [Instr.buildSlice, Sem.run_bind, und_some (kind_slice hk), Result.andThen, size_run hi]
          rw [if_neg (by omega)]
          simp only [h0, if_false, Sem.run_bind, zeroValue, info_some hi', Result.andThen, hz', Sem.run_pure, hcs]
          rfl
        · exact h.elim
      · exact h.elim
  · exact h.elim

theorem hasBody_some {g : FuncId} (h : hasBody P g = true) : ∃ fn, P.funcs[g]? = some fn ∧ (fn.name == "runtime.NumGoroutine") = false ∧ fn.body.isNone = false := by
  unfold hasBody at h
  split at h
  · rename_i fn hf
    simp only [Bool.and_eq_true, Bool.not_eq_true'] at h
    exact ⟨fn, hf, h.2, by simpa using h.1⟩
  · cases h
theorem callFunc_enters {g : FuncId} (h : hasBody P g = true) (args : Array Value) (w : World) : (callFunc g args).run P w = .ok (.enter g args) w := by
  obtain ⟨fn, hf, h1, h2⟩ := hasBody_some h
  simp only [callFunc, program, Sem.run_bind, Sem.run, Result.andThen, hf, h1, h2]
  rfl

theorem wp_of_value {o : Oper} {a : Act} {w : World} {v : Value} {w' : World} {next : Act → World → Prop} {Q : Exit → Act → World → Prop}
    (he : (execOp a.eval o).run P w = .ok (.value v) w') (h : next (a.put o.dst v) w') : o.wp P a w next Q := by
  unfold Oper.wp
  rw [he]
  exact h
theorem wp_of_skip {o : Oper} {a : Act} {w : World} {w' : World} {next : Act → World → Prop} {Q : Exit → Act → World → Prop}
    (he : (execOp a.eval o).run P w = .ok .skip w') (h : next (a.put o.dst undef) w') : o.wp P a w next Q := by
  unfold Oper.wp
  rw [he]
  exact h
theorem next_ok {s : Sem Value} {v : Value} {w w' : World} (h : s.run P w = .ok v w') : (do pure (Next.value (← s)) : Sem Next).run P w = .ok (.value v) w' := by
  simp [h]
theorem next_okU {s : Sem Unit} {w w' : World} (h : s.run P w = .ok () w') : (do s; pure Next.skip : Sem Next).run P w = .ok .skip w' := by
  simp [h]

theorem amap (f : Operand → Value) (l : Array Operand) : (l.toList.map f).toArray = l.map f := by
  apply Array.ext'
  simp
theorem stepW_ok {o : Oper} {a : Act} {w : World} {K : Value → World → Prop} {E : PanW} {next : Act → World → Prop} {Q : Exit → Act → World → Prop}
    (h : stepW P a.eval o w K E) (hK : ∀ v w', K v w' → next (a.put o.dst v) w') (hE : ∀ c w', E c w' → Q (.panic c) a w') : o.wp P a w next Q := by
  unfold stepW at h
  split at h
  · rename_i hp
    obtain ⟨v, hk, hr⟩ := pureW_run hp h
    exact wp_of_value (hr w) (hK _ _ hk)
  · obtain ⟨dst, op, ty, pos, after, guard⟩ := o
    dsimp only at h
    split at h
    case h_1 t x =>
      obtain ⟨v, hk, hr⟩ := loadW_run h
      exact wp_of_value (next_ok hr) (hK _ _ hk)
    case h_2 t x y =>
      obtain ⟨w', hk, hr⟩ := storeW_run h
      exact wp_of_skip (next_okU hr) (hK _ _ hk)
    case h_3 t =>
      unfold allocW at h
      split at h
      · rename_i z hz
        obtain ⟨i, hi, hz'⟩ := Option.bind_eq_some_iff.1 hz
        refine wp_of_value (next_ok ?_) (hK _ _ h)
        simp only [Instr.alloc, zeroValue, Sem.run_bind, info_some hi, Result.andThen, hz', Sem.run_pure, newVar, newRow]
        rfl
      · exact h.elim
    case h_4 t x hn => exact wp_of_value (next_ok (s := Instr.box t (a.eval x)) rfl) (hK _ _ h)
    case h_5 t n parts hn =>
      obtain ⟨v, w', hk, hr⟩ := buildSliceW_run (parts := parts.map fun p => (p.1, a.eval p.2)) (by simpa using h)
      exact wp_of_value (next_ok hr) (hK _ _ hk)
    case h_6 f args ats hn =>
      split at h
      · rename_i g first cap hf
        split at h
        · rename_i hb
          unfold Oper.wp
          have he : (execOp a.eval { dst := dst, op := .call { callee := .value f, args := args, argTypes := ats }, type := ty, pos := pos, after := after, guard := guard }).run P w = .ok (.enter g (first.toList ++ args.toList.map a.eval ++ cap.toList).toArray) w := by
            simp only [execOp, resolve, Deferred.ofValue, hf, Sem.run_bind, Sem.run_pure, Result.andThen, invoke]
            rw [callFunc_enters hb]
            congr 2
            apply Array.ext'
            simp
          rw [he]
          refine Calls.mono h fun e w' he' => ?_
          cases e with
          | returned v => exact hK _ _ (resW_elim (K := fun v => K v w') (by simpa [endW] using he'))
          | panicked c => exact hE _ _ he'
          | outgrown => exact he'.elim
        · exact h.elim
      · exact h.elim
    all_goals (try simp only [amap] at h)
    all_goals first
      | exact runV_step (by simp [execOp, resolve, invoke, builtin]; done) h hK hE
      | exact runS_step (by simp [execOp, resolve, invoke, builtin]; done) h hK hE
      | exact runV_step (by simp [execOp, resolve, invoke, builtin]; done) h (fun v w' hk => hK _ _ (nextW_elim (K := fun v => K v w') hk)) hE
      | exact runV_step (by simp [execOp, resolve, invoke, builtin]; done) h (fun v w' hk => hK _ _ (entryW_elim (K := fun v => K v w') hk)) hE
      | exact runV_step (by simp [execOp, resolve, invoke, builtin]; done) h (fun v w' hk => hK _ _ (assertW_elim (K := fun v => K v w') hk)) hE
      | exact runU_step (by simp [execOp]; done) h (fun w' hw => hK _ _ hw) hE
      | exact h.elim
end Go.Proofs.YtpolbdakhfcilaaGreatDoorEng
