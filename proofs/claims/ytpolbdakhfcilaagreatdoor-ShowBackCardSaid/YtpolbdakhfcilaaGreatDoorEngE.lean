/-
  A clean form of the walk, fifth part: regions, in the text's order or in any order that is drawn.
-/
import Derived.Test.YtpolbdakhfcilaaGreatDoorEngD
import Derived.Test.YtpolbdakhfcilaaGreatDoorWLast
namespace Go.Proofs.YtpolbdakhfcilaaGreatDoorEng
open Go Go.Proofs.YtpolbdakhfcilaaGreatDoorW.PrintLast
set_option linter.unusedSimpArgs false
set_option linter.unusedVariables false
variable {P : Program}

abbrev Post := Exit → Env → List Deferred → World → Prop
abbrev PostN := Env → List Deferred → World → Prop
abbrev PostP := List Deferred → PanW
def wGuard (v : Value) (K : Bool → Prop) (N : Prop) : Prop := match v with
  | .bool b => K b
  | .tuple _ => N
  | _ => False
def guardW (ops : List Oper) (r : Env) (o : Oper) (yes no : Env → Prop) : Prop := match o.guard with
  | none => yes r
  | some (j, want) => (match (ops[j]?).bind (·.dst) with
    | some d => wGuard (r d) (fun b => if b = want then yes (upd r d (.bool want)) else no (upd r d (.bool (!want)))) (no r)
    | none => False)
def opW (P : Program) (o : Oper) (r : Env) (D : List Deferred) (w : World) (K : PostN) (E : PostP) : Prop := match o.op with
  | .defer c => (match c.callee with
    | .value f => (match val r f with
      | .func fn first cap => K (putE r o.dst undef) ({ target := .fn fn cap, args := (first.toList ++ c.args.toList.map (val r)).toArray } :: D) w
      | _ => False)
    | _ => False)
  | _ => stepW P (val r) o w (fun v w => K (putE r o.dst v) D w) (E D)
def cops (P : Program) (ops : List Oper) : List Oper → Env → List Deferred → World → PostN → (Env → PostP) → Prop
  | [], r, D, w, K, _ => K r D w
  | o :: rest, r, D, w, K, E => guardW ops r o (fun r => opW P o r D w (fun r D w => cops P ops rest r D w K E) (E r)) (fun r => cops P ops rest (putE r o.dst undef) D w K E)

/-- The machine's frame is told by r and D. -/
structure Rl (n : Nat) (r : Env) (D : List Deferred) (a : Act) : Prop where
  size : a.tmps.size = n
  tmp : ∀ t, a.tmps.getD t undef = r t
  defers : a.defers = D
theorem Rl.eval {n : Nat} {r : Env} {D : List Deferred} {a : Act} (h : Rl n r D a) : a.eval = val r := by
  funext x
  cases x with
  | tmp t => exact h.tmp t
  | const v => rfl
  | global g => rfl
  | func f => rfl
def dstOk (n : Nat) (o : Oper) : Bool := match o.dst with
  | some d => decide (d < n)
  | none => true
theorem Rl.put {n : Nat} {r : Env} {D : List Deferred} {a : Act} (h : Rl n r D a) {d : Option Nat} (v : Value) (hd : ∀ t, d = some t → t < n) : Rl n (putE r d v) D (a.put d v) := by
  cases d with
  | none => exact h
  | some d =>
    refine ⟨by simpa [Act.put] using h.size, fun t => ?_, h.defers⟩
    have hlt : d < a.tmps.size := by rw [h.size]; exact hd d rfl
    simp only [Act.put, putE, upd_eq]
    by_cases e : t = d
    · subst e; simp [hlt]
    · have := h.tmp t
      have e' : ¬ d = t := fun x => e x.symm
      simp only [e, if_false]
      rw [← this]
      simp only [Array.getD_eq_getD_getElem?]
      rw [Array.getElem?_setIfInBounds_ne e']
theorem Rl.putD {n : Nat} {r : Env} {D : List Deferred} {a : Act} (h : Rl n r D a) (d : Deferred) : Rl n r (d :: D) { a with defers := d :: a.defers } :=
  ⟨h.size, h.tmp, by simp [h.defers]⟩
theorem dst_lt {n : Nat} {o : Oper} (h : dstOk n o = true) : ∀ t, o.dst = some t → t < n := by
  intro t ht
  unfold dstOk at h
  rw [ht] at h
  simpa using h

theorem yielded_bool {n : Nat} {r : Env} {D : List Deferred} {a : Act} (h : Rl n r D a) {ops : Array Oper} {j d : Nat} {b : Bool} (hd : (ops.toList[j]?).bind (·.dst) = some d) (hb : r d = .bool b) : yielded ops a.tmps j = some b := by
  unfold yielded
  rw [← Array.getElem?_toList, hd]
  have h1 := h.tmp d
  rw [hb, Array.getD_eq_getD_getElem?] at h1
  cases e : a.tmps[d]? with
  | none => rw [e] at h1; simp [undef] at h1
  | some v => rw [e] at h1; simp at h1; subst h1; simp [e]

theorem yielded_tuple {n : Nat} {r : Env} {D : List Deferred} {a : Act} (h : Rl n r D a) {ops : Array Oper} {j d : Nat} {l : Array Value} (hd : (ops.toList[j]?).bind (·.dst) = some d) (hb : r d = .tuple l) : yielded ops a.tmps j = none := by
  unfold yielded
  rw [← Array.getElem?_toList, hd]
  have h1 := h.tmp d
  rw [hb, Array.getD_eq_getD_getElem?] at h1
  cases e : a.tmps[d]? with
  | none => simp [e]
  | some v => rw [e] at h1; simp at h1; subst h1; simp [e]
theorem upd_self {r : Env} {d : Nat} {v : Value} (h : r d = v) : upd r d v = r := by
  funext t
  rw [upd_eq]
  by_cases e : t = d
  · subst e; simp [h]
  · simp [e]
/-- a guard, told by the frame -/
theorem guard_cases {n : Nat} {r : Env} {D : List Deferred} {a : Act} {ops : Array Oper} {o : Oper} {yes no : Env → Prop} (hr : Rl n r D a) (h : guardW ops.toList r o yes no) :
    (Region.wanted o (yielded ops a.tmps) = true ∧ yes r) ∨ (Region.wanted o (yielded ops a.tmps) = false ∧ no r) := by
  unfold guardW at h
  split at h
  · rename_i hg
    exact .inl ⟨by simp [Region.wanted, hg], h⟩
  · rename_i j want hg
    split at h
    · rename_i d hd
      unfold wGuard at h
      split at h
      · rename_i b hb
        have hy := yielded_bool hr hd hb
        split at h
        · rename_i e
          subst e
          rw [upd_self hb] at h
          exact .inl ⟨by simp [Region.wanted, hg, hy], h⟩
        · rename_i e
          have e' : b = !want := by cases b <;> cases want <;> simp at e ⊢
          rw [upd_self (by rw [hb, e'])] at h
          exact .inr ⟨by simp [Region.wanted, hg, hy]; exact e, h⟩
      · rename_i l hb
        have hy := yielded_tuple hr hd hb
        exact .inr ⟨by simp [Region.wanted, hg, hy], h⟩
      · exact h.elim
    · exact h.elim

theorem put_defers' (a : Act) (d : Option Nat) (v : Value) : (a.put d v).defers = a.defers := by cases d <;> rfl

theorem opW_ok {n : Nat} {o : Oper} {r : Env} {D : List Deferred} {a : Act} {w : World} {K : PostN} {E : PostP} {next : Act → World → Prop} {Q : Exit → Act → World → Prop}
    (hr : Rl n r D a) (hd : dstOk n o = true) (h : opW P o r D w K E) (hK : ∀ r' D' a' w', K r' D' w' → Rl n r' D' a' → (∃ v, r' = putE r o.dst v) → next a' w') (hE : ∀ c w', E D c w' → Q (.panic c) a w') : o.wp P a w next Q := by
  unfold opW at h
  split at h
  · rename_i c hc
    split at h
    · rename_i f hf
      split at h
      · rename_i fn first cap hv
        unfold Oper.wp
        have he : (execOp a.eval o).run P w = .ok (.defer { target := .fn fn cap, args := (first.toList ++ c.args.toList.map (val r)).toArray }) w := by
          have e1 : (first.toList ++ c.args.toList.map (val r)).toArray = first ++ c.args.map (val r) := by
            apply Array.ext'; simp
          obtain ⟨dst, op, ty, pos, after, guard⟩ := o
          dsimp only at hc
          subst hc
          simp [execOp, resolve, hf, hr.eval, hv, Deferred.ofValue, e1]
        rw [he]
        exact hK _ _ _ _ h ((hr.putD _).put undef (dst_lt hd)) ⟨_, rfl⟩
      · exact h.elim
    · exact h.elim
  · rw [← hr.eval] at h
    exact stepW_ok h (fun v w' hk => hK _ _ _ _ hk (hr.put v (dst_lt hd)) ⟨_, rfl⟩) hE

theorem cops_ok {n : Nat} {ops : Array Oper} {K : PostN} {E : Env → PostP} {Q : Exit → Act → World → Prop} (F : Env → Prop)
    (hK : ∀ r D w a, K r D w → Rl n r D a → F r → Q .normal a w) (hE : ∀ c r D w a, E r D c w → Rl n r D a → F r → Q (.panic c) a w) :
    ∀ (l : List Oper) (r : Env) (D : List Deferred) (a : Act) (w : World), l.all (dstOk n) = true → (∀ o ∈ l, ∀ r v, F r → F (putE r o.dst v)) → Rl n r D a → F r → cops P ops.toList l r D w K E → wpList P ops Q l a w
  | [], r, D, a, w, _, _, hr, hF, h => hK _ _ _ _ h hr hF
  | o :: rest, r, D, a, w, hd, hcl, hr, hF, h => by
    have hcl' := fun o' ho' => hcl o' (List.mem_cons_of_mem _ ho')
    have hput := fun v => hcl o List.mem_cons_self r v hF
    simp only [List.all_cons, Bool.and_eq_true] at hd
    simp only [cops] at h
    unfold wpList
    rcases guard_cases hr h with ⟨hw, h1⟩ | ⟨hw, h1⟩
    · rw [if_pos hw]
      exact .inl (opW_ok hr hd.1 h1 (fun r' D' a' w' hk hr' hr2 => cops_ok F hK hE rest r' D' a' w' hd.2 hcl' hr' (by obtain ⟨v, rfl⟩ := hr2; exact hput v) hk) (fun c w' he => hE c _ D w' a he hr hF))
    · rw [if_neg (by simp [hw])]
      exact cops_ok F hK hE rest _ D _ w hd.2 hcl' (hr.put undef (dst_lt hd.1)) (hput undef) h1

/-! ### a region that draws its order -/
def SameOld (w w' : World) : Prop := w.heap.size ≤ w'.heap.size ∧ ∀ b, b < w.heap.size → w'.heap[b]? = w.heap[b]?
theorem SameOld.refl (w : World) : SameOld w w := ⟨Nat.le_refl _, fun _ _ => rfl⟩
theorem SameOld.cell {w w' : World} (h : SameOld w w') {A : Addr} {v : Value} (hc : w.cell? A = some v) : w'.cell? A = some v := by
  unfold World.cell? at *
  have hlt : A.block < w.heap.size := by
    rcases Nat.lt_or_ge A.block w.heap.size with h' | h'
    · exact h'
    · simp [Array.getElem?_eq_none h'] at hc
  rw [h.2 _ hlt]
  exact hc
def isLoad : Op → Bool
  | .load .. => true
  | _ => false
def loadOpW (P : Program) (r : Operand → Value) (op : Op) (w : World) (K : Value → Prop) : Prop := match op with
  | .load t a => loadW P t (r a) w K
  | _ => False
def cdraw (P : Program) (ops : Array Oper) (ds : List Nat) (w0 : World) : List Nat → Bool → Env → List Deferred → World → PostN → PostP → Prop
  | [], _, r, D, w, K, _ => K r D w
  | i :: rest, late, r, D, w, K, E => match ops.toList[i]? with
    | none => False
    | some o => guardW ops.toList r o
      (fun r => if isPure P o.op then pureW P (val r) o.op fun v => cdraw P ops ds w0 rest late (putE r o.dst v) D w K E
       else if isLoad o.op && !late then loadOpW P (val r) o.op w0 fun v => cdraw P ops ds w0 rest late (putE r o.dst v) D w K E
       else if ds.contains i then opW P o r D w (fun r D w => cdraw P ops ds w0 rest true r D w K E) E
       else opW P o r D w (fun r D w' => SameOld w0 w' ∧ cdraw P ops ds w0 rest late r D w' K E) E)
      (fun r => cdraw P ops ds w0 rest (late || (ds.contains i && !isPure P o.op && !(isLoad o.op && !late))) (putE r o.dst undef) D w K E)
/-- what has been listed, brought into its plain form -/
def nrmBL : List Bool → (List Bool → Bool) → Bool
  | [], k => k []
  | b :: l, k => match b with
    | true => nrmBL l (fun l => k (true :: l))
    | false => nrmBL l (fun l => k (false :: l))
theorem nrmBL_eq : ∀ (l : List Bool) (k : List Bool → Bool), nrmBL l k = k l
  | [], _ => rfl
  | true :: l, k => nrmBL_eq l _
  | false :: l, k => nrmBL_eq l _
def nrmB (a : Array Bool) (k : Array Bool → Bool) : Bool := nrmBL a.toList fun l => k l.toArray
theorem nrmB_eq (a : Array Bool) (k : Array Bool → Bool) : nrmB a k = k a := by unfold nrmB; rw [nrmBL_eq]
def planOk (P : Program) (ops : Array Oper) (ds : List Nat) : List Nat → Bool → Array Bool → Bool
  | [], _, l => Region.ready .any ops l == []
  | i :: rest, late, l => nrmB l fun l => match ops.toList[i]? with
    | none => false
    | some o => if isPure P o.op then anyB .any ops l (l.setIfInBounds i true) i && planOk P ops ds rest late (l.setIfInBounds i true)
      else if isLoad o.op && !late then takeB .any ops ds l (l.setIfInBounds i true) i && planOk P ops ds rest late (l.setIfInBounds i true)
      else if ds.contains i then readyB .any ops l (l.setIfInBounds i true) i && planOk P ops ds rest true (l.setIfInBounds i true)
      else !late && readyB .any ops l (l.setIfInBounds i true) i && planOk P ops ds rest late (l.setIfInBounds i true)

theorem loadW_stable {t : TypeId} {p : Value} {w : World} {K : Value → Prop} (h : loadW P t p w K) : ∃ v, K v ∧ ∀ w', SameOld w w' → (Instr.loadAt t p).run P w' = .ok v w' := by
  have key : ∀ (zs : List Value) (A : Addr) (i : Nat) (K : List Value → Prop), cellsW zs w A i K → ∃ l, K l ∧ ∀ w', SameOld w w' → ∀ (acc : Array Value), (loadCellsFrom A i zs.length acc).run P w' = .ok (acc ++ l.toArray) w' := by
    intro zs
    induction zs with
    | nil => exact fun A i K h => ⟨[], h, fun w' _ acc => by simp [loadCellsFrom]⟩
    | cons z zs ih =>
      intro A i K h
      obtain ⟨v, hv, h1⟩ := cellW_elim h
      obtain ⟨l, hl, hr⟩ := ih _ _ _ h1
      refine ⟨v :: l, hl, fun w' hs acc => ?_⟩
      have hv' : w'.cell? (A.add i) = some v := hs.cell hv
      have hld : (load (A.add i)).run P w' = .ok v w' := by simp only [load, Sem.run, hv']
      simp [loadCellsFrom, hld, hr w' hs]
  unfold loadW at h
  split at h
  · rename_i z hz
    obtain ⟨i, hi, hz'⟩ := Option.bind_eq_some_iff.1 hz
    split at h
    · rename_i ha
      split at h
      · rename_i hs
        obtain ⟨A, rfl, h1⟩ := wPtr_elim h
        obtain ⟨l, hl, hr⟩ := key _ _ _ _ h1
        refine ⟨_, hl, fun w' hw' => ?_⟩
        obtain ⟨d, hd⟩ := agg_some ha
        have hsz : i.size = z.cells.size := by rw [← hs]; simp [sizeOfT, hi]
        have hlen : z.cells.toList.length = z.cells.size := by simp
        rw [hlen] at hr
        simp [Instr.loadAt, Instr.sureAddr, loadVar, isAgg_run hd, ha, sizeOf, info_some hi, hsz, loadCells, hr w' hw']
      · exact h.elim
    · rename_i ha
      split at h
      · exact h.elim
      · rename_i hk
        obtain ⟨A, rfl, h1⟩ := wPtr_elim h
        obtain ⟨v, hv, h2⟩ := cellT_elim h1
        refine ⟨_, h2, fun w' hw' => ?_⟩
        obtain ⟨d, hd⟩ := kind_some hk
        have ha' : isAggT P t = false := by simpa using ha
        have hl : (load A).run P w' = .ok v w' := by simp only [load, Sem.run, hw'.cell hv]
        simp only [Instr.loadAt, Instr.sureAddr, loadVar, Sem.run_bind, Sem.run_pure, Result.andThen, isAgg_run hd, ha']
        exact hl
  · exact h.elim

theorem cdraw_ok {n : Nat} {ops : Array Oper} {ds : List Nat} {w0 : World} {K : PostN} {E : PostP} {Q : Exit → Act → World → Prop} (F : Env → Prop) (hall : ops.toList.all (dstOk n) = true) (hcl : ∀ o ∈ ops.toList, ∀ r v, F r → F (putE r o.dst v))
    (hQ : ∀ o ∈ ops.toList, ∀ (v : Value) c a w, Q (.panic c) (a.put o.dst v) w → Q (.panic c) a w)
    (hK : ∀ r D w a, K r D w → Rl n r D a → F r → Q .normal a w) (hE : ∀ c r D w a, E D c w → Rl n r D a → F r → Q (.panic c) a w) :
    ∀ (l : List Nat) (late : Bool) (listed : Array Bool) (r : Env) (D : List Deferred) (a : Act) (w : World) (fuel : Nat), fuel = l.length → planOk P ops ds l late listed = true → (late = false → SameOld w0 w) → Rl n r D a → F r →
      cdraw P ops ds w0 l late r D w K E → wpAnyLast P .any ops Q (SameOld w0) ds fuel listed a w
  | [], late, listed, r, D, a, w, fuel, hf, hp, hs, hr, hF, h => done_ hp (hK _ _ _ _ h hr hF)
  | i :: rest, late, listed, r, D, a, w, fuel, hf, hp, hs, hr, hF, h => by
    subst hf
    simp only [cdraw] at h
    simp only [planOk, nrmB_eq] at hp
    split at h
    · exact h.elim
    · rename_i o ho
      have ho' : ops[i]? = some o := by rw [← Array.getElem?_toList]; exact ho
      rw [ho] at hp
      dsimp only at hp
      have hd : dstOk n o = true := List.all_eq_true.1 hall o (List.mem_of_getElem? ho)
      have hput := fun v => hcl o (List.mem_of_getElem? ho) r v hF
      have hQ' : ∀ (v : Value) c a w, Q (.panic c) (a.put o.dst v) w → Q (.panic c) a w := hQ o (List.mem_of_getElem? ho)
      by_cases hpure : isPure P o.op = true
      · rw [if_pos hpure, Bool.and_eq_true] at hp
        have fin : ∀ v, Yields P ops o v a → cdraw P ops ds w0 rest late (putE r o.dst v) D w K E → wpAnyLast P .any ops Q (SameOld w0) ds (rest.length + 1) listed a w := fun v hy hc =>
          pure_ _ ho' rfl hp.1 (hQ' v) hy rfl (cdraw_ok F hall hcl hQ hK hE rest late _ _ D _ w _ rfl hp.2 hs (hr.put v (dst_lt hd)) (hput v) hc)
        rcases guard_cases hr h with ⟨hw, h1⟩ | ⟨hw, h1⟩
        · rw [if_pos hpure, ← hr.eval] at h1
          obtain ⟨v, hk, hrun⟩ := pureW_run hpure h1
          exact fin v (.inl ⟨hw, hrun⟩) hk
        · have hl : (late || (ds.contains i && !isPure P o.op && !(isLoad o.op && !late))) = late := by simp [hpure]
          rw [hl] at h1
          exact fin undef (.inr ⟨hw, rfl⟩) h1
      · rw [if_neg hpure] at hp
        by_cases hload : (isLoad o.op && !late) = true
        · rw [if_pos hload, Bool.and_eq_true] at hp
          have hlate : late = false := by simp at hload; exact hload.2
          have fin : ∀ v, YieldsIf P ops (SameOld w0) o v a → cdraw P ops ds w0 rest late (putE r o.dst v) D w K E → wpAnyLast P .any ops Q (SameOld w0) ds (rest.length + 1) listed a w := fun v hy hc =>
            take_ _ ho' rfl hp.1 (hQ' v) hy (hs hlate) rfl (cdraw_ok F hall hcl hQ hK hE rest late _ _ D _ w _ rfl hp.2 hs (hr.put v (dst_lt hd)) (hput v) hc)
          rcases guard_cases hr h with ⟨hw, h1⟩ | ⟨hw, h1⟩
          · rw [if_neg hpure, if_pos hload, ← hr.eval] at h1
            unfold loadOpW at h1
            split at h1
            · rename_i t x hop
              obtain ⟨v, hk, hrun⟩ := loadW_stable h1
              refine fin v (.inl ⟨hw, fun w' hw' => ?_⟩) hk
              obtain ⟨dst, op, ty, pos, after, guard⟩ := o
              dsimp only at hop
              subst hop
              exact next_ok (hrun w' hw')
            · exact h1.elim
          · have hl : (late || (ds.contains i && !isPure P o.op && !(isLoad o.op && !late))) = late := by simp only [hload]; simp
            rw [hl] at h1
            exact fin undef (.inr ⟨hw, rfl⟩) h1
        · rw [if_neg hload] at hp
          have hload' : (isLoad o.op && !late) = false := by simpa using hload
          by_cases hds : ds.contains i = true
          · rw [if_pos hds, Bool.and_eq_true] at hp
            refine last_ _ ho' rfl hp.1 (by simpa using hds) fun K' hK' => ?_
            rcases guard_cases hr h with ⟨hw, h1⟩ | ⟨hw, h1⟩
            · rw [if_pos hw]
              rw [if_neg hpure, if_neg hload, if_pos hds] at h1
              exact opW_ok hr hd h1 (fun r' D' a' w' hk hr' hr2 => hK' _ _ (cdraw_ok F hall hcl hQ hK hE rest true _ r' D' a' w' _ rfl hp.2 (fun e => by cases e) hr' (by obtain ⟨v, rfl⟩ := hr2; exact hput v) hk)) (fun c w' he => hE c _ D w' a he hr hF)
            · rw [if_neg (by simp [hw])]
              have hl : (late || (ds.contains i && !isPure P o.op && !(isLoad o.op && !late))) = true := by
                have : isPure P o.op = false := by simpa using hpure
                rw [hds, this, hload']; simp
              rw [hl] at h1
              exact hK' _ _ (cdraw_ok F hall hcl hQ hK hE rest true _ _ D _ w _ rfl hp.2 (fun e => by cases e) (hr.put undef (dst_lt hd)) (hput undef) h1)
          · rw [if_neg hds, Bool.and_eq_true, Bool.and_eq_true] at hp
            have hlate : late = false := by simpa using hp.1.1
            refine one_ _ ho' rfl hp.1.2 (by simpa using hds) fun K' hK' => ?_
            rcases guard_cases hr h with ⟨hw, h1⟩ | ⟨hw, h1⟩
            · rw [if_pos hw]
              rw [if_neg hpure, if_neg hload, if_neg hds] at h1
              exact opW_ok hr hd h1 (fun r' D' a' w' hk hr' hr2 => hK' _ _ hk.1 (fun _ => cdraw_ok F hall hcl hQ hK hE rest late _ r' D' a' w' _ rfl hp.2 (fun _ => hk.1) hr' (by obtain ⟨v, rfl⟩ := hr2; exact hput v) hk.2)) (fun c w' he => hE c _ D w' a he hr hF)
            · rw [if_neg (by simp [hw])]
              have hl : (late || (ds.contains i && !isPure P o.op && !(isLoad o.op && !late))) = late := by
                have : ds.contains i = false := by simpa using hds
                rw [this]; simp
              rw [hl] at h1
              exact hK' _ _ (hs hlate) (fun _ => cdraw_ok F hall hcl hQ hK hE rest late _ _ D _ w _ rfl hp.2 (fun _ => hs hlate) (hr.put undef (dst_lt hd)) (hput undef) h1)

/-! ### the same where a call may write what is old: but not what is read -/
def Kept (S : Nat → Prop) (w w' : World) : Prop := w.heap.size ≤ w'.heap.size ∧ ∀ b, b < w.heap.size → ¬ S b → w'.heap[b]? = w.heap[b]?
theorem Kept.refl (S : Nat → Prop) (w : World) : Kept S w w := ⟨Nat.le_refl _, fun _ _ _ => rfl⟩
theorem Kept.cell {S : Nat → Prop} {w w' : World} (h : Kept S w w') {A : Addr} (hA : ¬ S A.block) {v : Value} (hc : w.cell? A = some v) : w'.cell? A = some v := by
  unfold World.cell? at *
  have hlt : A.block < w.heap.size := by
    rcases Nat.lt_or_ge A.block w.heap.size with h' | h'
    · exact h'
    · simp [Array.getElem?_eq_none h'] at hc
  rw [h.2 _ hlt hA]
  exact hc
theorem addr_block (A : Addr) (i : Nat) : (A.add i).block = A.block := by unfold Addr.add; split <;> rfl
def notIn (S : Nat → Prop) (p : Value) : Prop := match p with
  | .pointer (some A) => ¬ S A.block
  | _ => False
def loadOpS (P : Program) (r : Operand → Value) (op : Op) (S : Nat → Prop) (w : World) (K : Value → Prop) : Prop := match op with
  | .load t a => notIn S (r a) ∧ loadW P t (r a) w K
  | _ => False
def cdrawS (P : Program) (ops : Array Oper) (ds : List Nat) (S : Nat → Prop) (w0 : World) : List Nat → Bool → Env → List Deferred → World → PostN → PostP → Prop
  | [], _, r, D, w, K, _ => K r D w
  | i :: rest, late, r, D, w, K, E => match ops.toList[i]? with
    | none => False
    | some o => guardW ops.toList r o
      (fun r => if isPure P o.op then pureW P (val r) o.op fun v => cdrawS P ops ds S w0 rest late (putE r o.dst v) D w K E
       else if isLoad o.op && !late then loadOpS P (val r) o.op S w0 fun v => cdrawS P ops ds S w0 rest late (putE r o.dst v) D w K E
       else if ds.contains i then opW P o r D w (fun r D w => cdrawS P ops ds S w0 rest true r D w K E) E
       else opW P o r D w (fun r D w' => Kept S w0 w' ∧ cdrawS P ops ds S w0 rest late r D w' K E) E)
      (fun r => cdrawS P ops ds S w0 rest (late || (ds.contains i && !isPure P o.op && !(isLoad o.op && !late))) (putE r o.dst undef) D w K E)
theorem loadW_stableS {S : Nat → Prop} {t : TypeId} {p : Value} {w : World} {K : Value → Prop} (hb : ∀ A, p = .pointer (some A) → ¬ S A.block) (h : loadW P t p w K) : ∃ v, K v ∧ ∀ w', Kept S w w' → (Instr.loadAt t p).run P w' = .ok v w' := by
  have key : ∀ (zs : List Value) (A : Addr) (i : Nat) (K : List Value → Prop), ¬ S A.block → cellsW zs w A i K → ∃ l, K l ∧ ∀ w', Kept S w w' → ∀ (acc : Array Value), (loadCellsFrom A i zs.length acc).run P w' = .ok (acc ++ l.toArray) w' := by
    intro zs
    induction zs with
    | nil => exact fun A i K _ h => ⟨[], h, fun w' _ acc => by simp [loadCellsFrom]⟩
    | cons z zs ih =>
      intro A i K hA h
      obtain ⟨v, hv, h1⟩ := cellW_elim h
      obtain ⟨l, hl, hr⟩ := ih _ _ _ hA h1
      refine ⟨v :: l, hl, fun w' hs acc => ?_⟩
      have hv' : w'.cell? (A.add i) = some v := hs.cell (by rw [addr_block]; exact hA) hv
      have hld : (load (A.add i)).run P w' = .ok v w' := by simp only [load, Sem.run, hv']
      simp [loadCellsFrom, hld, hr w' hs]
  unfold loadW at h
  split at h
  · rename_i z hz
    obtain ⟨i, hi, hz'⟩ := Option.bind_eq_some_iff.1 hz
    split at h
    · rename_i ha
      split at h
      · rename_i hs
        obtain ⟨A, rfl, h1⟩ := wPtr_elim h
        obtain ⟨l, hl, hr⟩ := key _ _ _ _ (hb _ rfl) h1
        refine ⟨_, hl, fun w' hw' => ?_⟩
        obtain ⟨d, hd⟩ := agg_some ha
        have hsz : i.size = z.cells.size := by rw [← hs]; simp [sizeOfT, hi]
        have hlen : z.cells.toList.length = z.cells.size := by simp
        rw [hlen] at hr
        simp [Instr.loadAt, Instr.sureAddr, loadVar, isAgg_run hd, ha, sizeOf, info_some hi, hsz, loadCells, hr w' hw']
      · exact h.elim
    · rename_i ha
      split at h
      · exact h.elim
      · rename_i hk
        obtain ⟨A, rfl, h1⟩ := wPtr_elim h
        obtain ⟨v, hv, h2⟩ := cellT_elim h1
        refine ⟨_, h2, fun w' hw' => ?_⟩
        obtain ⟨d, hd⟩ := kind_some hk
        have ha' : isAggT P t = false := by simpa using ha
        have hl : (load A).run P w' = .ok v w' := by simp only [load, Sem.run, hw'.cell (hb _ rfl) hv]
        simp only [Instr.loadAt, Instr.sureAddr, loadVar, Sem.run_bind, Sem.run_pure, Result.andThen, isAgg_run hd, ha']
        exact hl
  · exact h.elim

theorem cdrawS_ok {n : Nat} {ops : Array Oper} {ds : List Nat} {S : Nat → Prop} {w0 : World} {K : PostN} {E : PostP} {Q : Exit → Act → World → Prop} (F : Env → Prop) (hall : ops.toList.all (dstOk n) = true) (hcl : ∀ o ∈ ops.toList, ∀ r v, F r → F (putE r o.dst v))
    (hQ : ∀ o ∈ ops.toList, ∀ (v : Value) c a w, Q (.panic c) (a.put o.dst v) w → Q (.panic c) a w)
    (hK : ∀ r D w a, K r D w → Rl n r D a → F r → Q .normal a w) (hE : ∀ c r D w a, E D c w → Rl n r D a → F r → Q (.panic c) a w) :
    ∀ (l : List Nat) (late : Bool) (listed : Array Bool) (r : Env) (D : List Deferred) (a : Act) (w : World) (fuel : Nat), fuel = l.length → planOk P ops ds l late listed = true → (late = false → Kept S w0 w) → Rl n r D a → F r →
      cdrawS P ops ds S w0 l late r D w K E → wpAnyLast P .any ops Q (Kept S w0) ds fuel listed a w
  | [], late, listed, r, D, a, w, fuel, hf, hp, hs, hr, hF, h => done_ hp (hK _ _ _ _ h hr hF)
  | i :: rest, late, listed, r, D, a, w, fuel, hf, hp, hs, hr, hF, h => by
    subst hf
    simp only [cdrawS] at h
    simp only [planOk, nrmB_eq] at hp
    split at h
    · exact h.elim
    · rename_i o ho
      have ho' : ops[i]? = some o := by rw [← Array.getElem?_toList]; exact ho
      rw [ho] at hp
      dsimp only at hp
      have hd : dstOk n o = true := List.all_eq_true.1 hall o (List.mem_of_getElem? ho)
      have hput := fun v => hcl o (List.mem_of_getElem? ho) r v hF
      have hQ' : ∀ (v : Value) c a w, Q (.panic c) (a.put o.dst v) w → Q (.panic c) a w := hQ o (List.mem_of_getElem? ho)
      by_cases hpure : isPure P o.op = true
      · rw [if_pos hpure, Bool.and_eq_true] at hp
        have fin : ∀ v, Yields P ops o v a → cdrawS P ops ds S w0 rest late (putE r o.dst v) D w K E → wpAnyLast P .any ops Q (Kept S w0) ds (rest.length + 1) listed a w := fun v hy hc =>
          pure_ _ ho' rfl hp.1 (hQ' v) hy rfl (cdrawS_ok F hall hcl hQ hK hE rest late _ _ D _ w _ rfl hp.2 hs (hr.put v (dst_lt hd)) (hput v) hc)
        rcases guard_cases hr h with ⟨hw, h1⟩ | ⟨hw, h1⟩
        · rw [if_pos hpure, ← hr.eval] at h1
          obtain ⟨v, hk, hrun⟩ := pureW_run hpure h1
          exact fin v (.inl ⟨hw, hrun⟩) hk
        · have hl : (late || (ds.contains i && !isPure P o.op && !(isLoad o.op && !late))) = late := by simp [hpure]
          rw [hl] at h1
          exact fin undef (.inr ⟨hw, rfl⟩) h1
      · rw [if_neg hpure] at hp
        by_cases hload : (isLoad o.op && !late) = true
        · rw [if_pos hload, Bool.and_eq_true] at hp
          have hlate : late = false := by simp at hload; exact hload.2
          have fin : ∀ v, YieldsIf P ops (Kept S w0) o v a → cdrawS P ops ds S w0 rest late (putE r o.dst v) D w K E → wpAnyLast P .any ops Q (Kept S w0) ds (rest.length + 1) listed a w := fun v hy hc =>
            take_ _ ho' rfl hp.1 (hQ' v) hy (hs hlate) rfl (cdrawS_ok F hall hcl hQ hK hE rest late _ _ D _ w _ rfl hp.2 hs (hr.put v (dst_lt hd)) (hput v) hc)
          rcases guard_cases hr h with ⟨hw, h1⟩ | ⟨hw, h1⟩
          · rw [if_neg hpure, if_pos hload, ← hr.eval] at h1
            unfold loadOpS at h1
            split at h1
            · rename_i t x hop
              obtain ⟨hb, h1⟩ := h1
              obtain ⟨v, hk, hrun⟩ := loadW_stableS (S := S) (by intro A hA; rw [hA] at hb; exact hb) h1
              refine fin v (.inl ⟨hw, fun w' hw' => ?_⟩) hk
              obtain ⟨dst, op, ty, pos, after, guard⟩ := o
              dsimp only at hop
              subst hop
              exact next_ok (hrun w' hw')
            · exact h1.elim
          · have hl : (late || (ds.contains i && !isPure P o.op && !(isLoad o.op && !late))) = late := by simp only [hload]; simp
            rw [hl] at h1
            exact fin undef (.inr ⟨hw, rfl⟩) h1
        · rw [if_neg hload] at hp
          have hload' : (isLoad o.op && !late) = false := by simpa using hload
          by_cases hds : ds.contains i = true
          · rw [if_pos hds, Bool.and_eq_true] at hp
            refine last_ _ ho' rfl hp.1 (by simpa using hds) fun K' hK' => ?_
            rcases guard_cases hr h with ⟨hw, h1⟩ | ⟨hw, h1⟩
            · rw [if_pos hw]
              rw [if_neg hpure, if_neg hload, if_pos hds] at h1
              exact opW_ok hr hd h1 (fun r' D' a' w' hk hr' hr2 => hK' _ _ (cdrawS_ok F hall hcl hQ hK hE rest true _ r' D' a' w' _ rfl hp.2 (fun e => by cases e) hr' (by obtain ⟨v, rfl⟩ := hr2; exact hput v) hk)) (fun c w' he => hE c _ D w' a he hr hF)
            · rw [if_neg (by simp [hw])]
              have hl : (late || (ds.contains i && !isPure P o.op && !(isLoad o.op && !late))) = true := by
                have : isPure P o.op = false := by simpa using hpure
                rw [hds, this, hload']; simp
              rw [hl] at h1
              exact hK' _ _ (cdrawS_ok F hall hcl hQ hK hE rest true _ _ D _ w _ rfl hp.2 (fun e => by cases e) (hr.put undef (dst_lt hd)) (hput undef) h1)
          · rw [if_neg hds, Bool.and_eq_true, Bool.and_eq_true] at hp
            have hlate : late = false := by simpa using hp.1.1
            refine one_ _ ho' rfl hp.1.2 (by simpa using hds) fun K' hK' => ?_
            rcases guard_cases hr h with ⟨hw, h1⟩ | ⟨hw, h1⟩
            · rw [if_pos hw]
              rw [if_neg hpure, if_neg hload, if_neg hds] at h1
              exact opW_ok hr hd h1 (fun r' D' a' w' hk hr' hr2 => hK' _ _ hk.1 (fun _ => cdrawS_ok F hall hcl hQ hK hE rest late _ r' D' a' w' _ rfl hp.2 (fun _ => hk.1) hr' (by obtain ⟨v, rfl⟩ := hr2; exact hput v) hk.2)) (fun c w' he => hE c _ D w' a he hr hF)
            · rw [if_neg (by simp [hw])]
              have hl : (late || (ds.contains i && !isPure P o.op && !(isLoad o.op && !late))) = late := by
                have : ds.contains i = false := by simpa using hds
                rw [this]; simp
              rw [hl] at h1
              exact hK' _ _ (hs hlate) (fun _ => cdrawS_ok F hall hcl hQ hK hE rest late _ _ D _ w _ rfl hp.2 (fun _ => hs hlate) (hr.put undef (dst_lt hd)) (hput undef) h1)
/-! ### a region in parts: a part ends where one operation alone is ready -/
def planE (P : Program) (ops : Array Oper) (ds : List Nat) (fin : Array Bool) : List Nat → Bool → Array Bool → Bool
  | [], _, l => l == fin
  | i :: rest, late, l => nrmB l fun l => match ops.toList[i]? with
    | none => false
    | some o => if isPure P o.op then anyB .any ops l (l.setIfInBounds i true) i && planE P ops ds fin rest late (l.setIfInBounds i true)
      else if isLoad o.op && !late then takeB .any ops ds l (l.setIfInBounds i true) i && planE P ops ds fin rest late (l.setIfInBounds i true)
      else if ds.contains i then readyB .any ops l (l.setIfInBounds i true) i && planE P ops ds fin rest true (l.setIfInBounds i true)
      else !late && readyB .any ops l (l.setIfInBounds i true) i && planE P ops ds fin rest late (l.setIfInBounds i true)
theorem cdrawS_seg {n : Nat} {ops : Array Oper} {ds : List Nat} {S : Nat → Prop} {w0 : World} {K : PostN} {E : PostP} {Q : Exit → Act → World → Prop} {fuel0 : Nat} {fin : Array Bool} (F : Env → Prop) (hall : ops.toList.all (dstOk n) = true) (hcl : ∀ o ∈ ops.toList, ∀ r v, F r → F (putE r o.dst v))
    (hQ : ∀ o ∈ ops.toList, ∀ (v : Value) c a w, Q (.panic c) (a.put o.dst v) w → Q (.panic c) a w)
    (hK : ∀ r D w a, K r D w → Rl n r D a → F r → wpAnyLast P .any ops Q (Kept S w0) ds fuel0 fin a w) (hE : ∀ c r D w a, E D c w → Rl n r D a → F r → Q (.panic c) a w) :
    ∀ (l : List Nat) (late : Bool) (listed : Array Bool) (r : Env) (D : List Deferred) (a : Act) (w : World) (fuel : Nat), fuel = l.length + fuel0 → planE P ops ds fin l late listed = true → (late = false → Kept S w0 w) → Rl n r D a → F r →
      cdrawS P ops ds S w0 l late r D w K E → wpAnyLast P .any ops Q (Kept S w0) ds fuel listed a w
  | [], late, listed, r, D, a, w, fuel, hf, hp, hs, hr, hF, h => by
    have e1 : fuel = fuel0 := by simpa using hf
    have e2 : listed = fin := by simpa [planE] using hp
    subst e1; subst e2
    exact hK _ _ _ _ h hr hF
  | i :: rest, late, listed, r, D, a, w, fuel, hf, hp, hs, hr, hF, h => by
    have hf2 : fuel = (rest.length + fuel0) + 1 := by rw [hf, List.length_cons]; omega
    subst hf2
    simp only [cdrawS] at h
    simp only [planE, nrmB_eq] at hp
    split at h
    · exact h.elim
    · rename_i o ho
      have ho' : ops[i]? = some o := by rw [← Array.getElem?_toList]; exact ho
      rw [ho] at hp
      dsimp only at hp
      have hd : dstOk n o = true := List.all_eq_true.1 hall o (List.mem_of_getElem? ho)
      have hput := fun v => hcl o (List.mem_of_getElem? ho) r v hF
      have hQ' : ∀ (v : Value) c a w, Q (.panic c) (a.put o.dst v) w → Q (.panic c) a w := hQ o (List.mem_of_getElem? ho)
      by_cases hpure : isPure P o.op = true
      · rw [if_pos hpure, Bool.and_eq_true] at hp
        have fin : ∀ v, Yields P ops o v a → cdrawS P ops ds S w0 rest late (putE r o.dst v) D w K E → wpAnyLast P .any ops Q (Kept S w0) ds (rest.length + fuel0 + 1) listed a w := fun v hy hc =>
          pure_ _ ho' rfl hp.1 (hQ' v) hy rfl (cdrawS_seg F hall hcl hQ hK hE rest late _ _ D _ w _ rfl hp.2 hs (hr.put v (dst_lt hd)) (hput v) hc)
        rcases guard_cases hr h with ⟨hw, h1⟩ | ⟨hw, h1⟩
        · rw [if_pos hpure, ← hr.eval] at h1
          obtain ⟨v, hk, hrun⟩ := pureW_run hpure h1
          exact fin v (.inl ⟨hw, hrun⟩) hk
        · have hl : (late || (ds.contains i && !isPure P o.op && !(isLoad o.op && !late))) = late := by simp [hpure]
          rw [hl] at h1
          exact fin undef (.inr ⟨hw, rfl⟩) h1
      · rw [if_neg hpure] at hp
        by_cases hload : (isLoad o.op && !late) = true
        · rw [if_pos hload, Bool.and_eq_true] at hp
          have hlate : late = false := by simp at hload; exact hload.2
          have fin : ∀ v, YieldsIf P ops (Kept S w0) o v a → cdrawS P ops ds S w0 rest late (putE r o.dst v) D w K E → wpAnyLast P .any ops Q (Kept S w0) ds (rest.length + fuel0 + 1) listed a w := fun v hy hc =>
            take_ _ ho' rfl hp.1 (hQ' v) hy (hs hlate) rfl (cdrawS_seg F hall hcl hQ hK hE rest late _ _ D _ w _ rfl hp.2 hs (hr.put v (dst_lt hd)) (hput v) hc)
          rcases guard_cases hr h with ⟨hw, h1⟩ | ⟨hw, h1⟩
          · rw [if_neg hpure, if_pos hload, ← hr.eval] at h1
            unfold loadOpS at h1
            split at h1
            · rename_i t x hop
              obtain ⟨hb, h1⟩ := h1
              obtain ⟨v, hk, hrun⟩ := loadW_stableS (S := S) (by intro A hA; rw [hA] at hb; exact hb) h1
              refine fin v (.inl ⟨hw, fun w' hw' => ?_⟩) hk
              obtain ⟨dst, op, ty, pos, after, guard⟩ := o
              dsimp only at hop
              subst hop
              exact next_ok (hrun w' hw')
            · exact h1.elim
          · have hl : (late || (ds.contains i && !isPure P o.op && !(isLoad o.op && !late))) = late := by simp only [hload]; simp
            rw [hl] at h1
            exact fin undef (.inr ⟨hw, rfl⟩) h1
        · rw [if_neg hload] at hp
          have hload' : (isLoad o.op && !late) = false := by simpa using hload
          by_cases hds : ds.contains i = true
          · rw [if_pos hds, Bool.and_eq_true] at hp
            refine last_ _ ho' rfl hp.1 (by simpa using hds) fun K' hK' => ?_
            rcases guard_cases hr h with ⟨hw, h1⟩ | ⟨hw, h1⟩
            · rw [if_pos hw]
              rw [if_neg hpure, if_neg hload, if_pos hds] at h1
              exact opW_ok hr hd h1 (fun r' D' a' w' hk hr' hr2 => hK' _ _ (cdrawS_seg F hall hcl hQ hK hE rest true _ r' D' a' w' _ rfl hp.2 (fun e => by cases e) hr' (by obtain ⟨v, rfl⟩ := hr2; exact hput v) hk)) (fun c w' he => hE c _ D w' a he hr hF)
            · rw [if_neg (by simp [hw])]
              have hl : (late || (ds.contains i && !isPure P o.op && !(isLoad o.op && !late))) = true := by
                have : isPure P o.op = false := by simpa using hpure
                rw [hds, this, hload']; simp
              rw [hl] at h1
              exact hK' _ _ (cdrawS_seg F hall hcl hQ hK hE rest true _ _ D _ w _ rfl hp.2 (fun e => by cases e) (hr.put undef (dst_lt hd)) (hput undef) h1)
          · rw [if_neg hds, Bool.and_eq_true, Bool.and_eq_true] at hp
            have hlate : late = false := by simpa using hp.1.1
            refine one_ _ ho' rfl hp.1.2 (by simpa using hds) fun K' hK' => ?_
            rcases guard_cases hr h with ⟨hw, h1⟩ | ⟨hw, h1⟩
            · rw [if_pos hw]
              rw [if_neg hpure, if_neg hload, if_neg hds] at h1
              exact opW_ok hr hd h1 (fun r' D' a' w' hk hr' hr2 => hK' _ _ hk.1 (fun _ => cdrawS_seg F hall hcl hQ hK hE rest late _ r' D' a' w' _ rfl hp.2 (fun _ => hk.1) hr' (by obtain ⟨v, rfl⟩ := hr2; exact hput v) hk.2)) (fun c w' he => hE c _ D w' a he hr hF)
            · rw [if_neg (by simp [hw])]
              have hl : (late || (ds.contains i && !isPure P o.op && !(isLoad o.op && !late))) = late := by
                have : ds.contains i = false := by simpa using hds
                rw [this]; simp
              rw [hl] at h1
              exact hK' _ _ (hs hlate) (fun _ => cdrawS_seg F hall hcl hQ hK hE rest late _ _ D _ w _ rfl hp.2 (fun _ => hs hlate) (hr.put undef (dst_lt hd)) (hput undef) h1)

theorem wpLast_of_any {P : Program} {md : Region.Mode} {ops : Array Oper} {Q : Exit → Act → World → Prop} {S : World → Prop} {ds : List Nat} : ∀ (fuel : Nat) (listed : Array Bool) (a : Act) (w : World), (∀ i, listed.getD i true = false → i ∈ ds) → wpAny P md ops Q fuel listed a w → wpAnyLast P md ops Q S ds fuel listed a w
  | 0, listed, a, w, _, h => h
  | fuel + 1, listed, a, w, hd, h => ⟨h.1, fun i hi => by
    have hi' := hd i (mem_ready.1 hi).1
    refine wpOp_mono (fun a' w' h' => ⟨fun hn => absurd hi' hn, wpLast_of_any fuel _ a' w' (fun j hj => hd j ?_) h'⟩) (h.2 i hi)
    by_cases hji : i = j
    · subst hji
      rcases Nat.lt_or_ge i listed.size with h1 | h1
      · simp [h1] at hj
      · simp [Array.getElem?_eq_none h1] at hj
    · rw [getD_set_ne true hji] at hj
      exact hj⟩
def endsAt (listed : Array Bool) (l : List Nat) : Array Bool := l.foldl (fun a i => a.setIfInBounds i true) listed
/-- what may come from the last one of a part on -/
def restOf (seg : List Nat) (segs : List (List Nat)) : List Nat := (seg.getLast?.toList) ++ segs.flatten
def cdrawM (P : Program) (ops : Array Oper) : List (List Nat) → Env → List Deferred → World → PostN → PostP → Prop
  | [], r, D, w, K, _ => K r D w
  | seg :: segs, r, D, w, K, E => ∃ S : Nat → Prop, cdrawS P ops (restOf seg segs) S w seg false r D w (fun r D w => cdrawM P ops segs r D w K E) E
def planM (P : Program) (ops : Array Oper) : List (List Nat) → Array Bool → Bool
  | [], l => Region.ready .any ops l == []
  | seg :: segs, l => nrmB l fun l => nrmB (endsAt l seg) fun l2 => planE P ops (restOf seg segs) l2 seg false l && ((List.range l2.size).all fun i => l2.getD i true || (restOf seg segs).contains i) && planM P ops segs l2
theorem cdrawM_ok {P : Program} {n : Nat} {ops : Array Oper} {K : PostN} {E : PostP} {Q : Exit → Act → World → Prop} (F : Env → Prop) (hall : ops.toList.all (dstOk n) = true) (hcl : ∀ o ∈ ops.toList, ∀ r v, F r → F (putE r o.dst v))
    (hQ : ∀ o ∈ ops.toList, ∀ (v : Value) c a w, Q (.panic c) (a.put o.dst v) w → Q (.panic c) a w)
    (hK : ∀ r D w a, K r D w → Rl n r D a → F r → Q .normal a w) (hE : ∀ c r D w a, E D c w → Rl n r D a → F r → Q (.panic c) a w) :
    ∀ (segs : List (List Nat)) (listed : Array Bool) (r : Env) (D : List Deferred) (a : Act) (w : World), planM P ops segs listed = true → Rl n r D a → F r →
      cdrawM P ops segs r D w K E → wpAny P .any ops Q (segs.flatten.length) listed a w
  | [], listed, r, D, a, w, hp, hr, hF, h => ⟨by simpa [planM] using hp, hK _ _ _ _ h hr hF⟩
  | seg :: segs, listed, r, D, a, w, hp, hr, hF, h => by
    simp only [planM, nrmB_eq, Bool.and_eq_true] at hp
    obtain ⟨⟨hp1, hp2⟩, hp3⟩ := hp
    obtain ⟨S, h⟩ := h
    have hrest : ∀ i, (endsAt listed seg).getD i true = false → i ∈ restOf seg segs := fun i hi => by
      have hlt : i < (endsAt listed seg).size := by
        rcases Nat.lt_or_ge i (endsAt listed seg).size with h1 | h1
        · exact h1
        · simp [Array.getElem?_eq_none h1] at hi
      have := List.all_eq_true.1 hp2 i (List.mem_range.2 hlt)
      rw [hi] at this
      simpa using this
    refine wpAny_of_last (S := Kept S w) (ds := restOf seg segs) _ _ _ _ ?_
    refine cdrawS_seg (fuel0 := segs.flatten.length) (fin := endsAt listed seg) F hall hcl hQ (fun r' D' w' a' hk hr' hf' => wpLast_of_any _ _ _ _ hrest (cdrawM_ok F hall hcl hQ hK hE segs _ r' D' a' w' hp3 hr' hf' hk)) hE seg false listed r D a w _ (by simp) hp1 (fun _ => Kept.refl _ _) hr hF h
/-! ### a region in which several that write come up at once: every order of theirs -/
def movable (P : Program) (ops : Array Oper) (listed : Array Bool) (i : Nat) : Bool := match ops.toList[i]? with
  | some o => if isPure P o.op then anyB .any ops listed (listed.setIfInBounds i true) i else isLoad o.op && takeB .any ops [] listed (listed.setIfInBounds i true) i
  | none => false
def allL : List Nat → (Nat → Prop) → Prop
  | [], _ => True
  | i :: l, p => p i ∧ allL l p
theorem allL_mem {p : Nat → Prop} : ∀ {l : List Nat}, allL l p → ∀ i ∈ l, p i
  | [], _, i, hi => by cases hi
  | j :: l, h, i, hi => by
    rcases List.mem_cons.1 hi with rfl | hi
    · exact h.1
    · exact allL_mem (l := l) h.2 i hi
/-- what has been listed, brought into its plain form -/
def nrmL : List Bool → (List Bool → Prop) → Prop
  | [], k => k []
  | b :: l, k => match b with
    | true => nrmL l (fun l => k (true :: l))
    | false => nrmL l (fun l => k (false :: l))
theorem nrmL_eq : ∀ (l : List Bool) (k : List Bool → Prop), nrmL l k = k l
  | [], _ => rfl
  | true :: l, k => nrmL_eq l _
  | false :: l, k => nrmL_eq l _
def nrm (a : Array Bool) (k : Array Bool → Prop) : Prop := nrmL a.toList fun l => k l.toArray
theorem nrm_eq (a : Array Bool) (k : Array Bool → Prop) : nrm a k = k a := by unfold nrm; rw [nrmL_eq]
def cdrawF (P : Program) (ops : Array Oper) (S : Nat → Prop) (w0 : World) : Nat → Array Bool → Env → List Deferred → World → PostN → PostP → Prop
  | 0, listed, r, D, w, K, _ => (match Region.ready .any ops listed with
    | [] => K r D w
    | _ => False)
  | fuel + 1, listed, r, D, w, K, E => nrm listed fun listed => (match Region.ready .any ops listed with
    | [] => K r D w
    | rd => (match rd.find? (movable P ops listed) with
      | some i => (match ops.toList[i]? with
        | none => False
        | some o => guardW ops.toList r o
          (fun r => if isPure P o.op then pureW P (val r) o.op fun v => cdrawF P ops S w0 fuel (listed.setIfInBounds i true) (putE r o.dst v) D w K E
            else loadOpS P (val r) o.op S w0 fun v => cdrawF P ops S w0 fuel (listed.setIfInBounds i true) (putE r o.dst v) D w K E)
          (fun r => cdrawF P ops S w0 fuel (listed.setIfInBounds i true) (putE r o.dst undef) D w K E))
      | none => allL rd fun i => (match ops.toList[i]? with
        | none => False
        | some o => guardW ops.toList r o
          (fun r => opW P o r D w (fun r D w' => Kept S w0 w' ∧ cdrawF P ops S w0 fuel (listed.setIfInBounds i true) r D w' K E) E)
          (fun r => cdrawF P ops S w0 fuel (listed.setIfInBounds i true) (putE r o.dst undef) D w K E))))
theorem cdrawF_ok {n : Nat} {ops : Array Oper} {S : Nat → Prop} {w0 : World} {K : PostN} {E : PostP} {Q : Exit → Act → World → Prop} (F : Env → Prop) (hall : ops.toList.all (dstOk n) = true) (hcl : ∀ o ∈ ops.toList, ∀ r v, F r → F (putE r o.dst v))
    (hQ : ∀ o ∈ ops.toList, ∀ (v : Value) c a w, Q (.panic c) (a.put o.dst v) w → Q (.panic c) a w)
    (hK : ∀ r D w a, K r D w → Rl n r D a → F r → Q .normal a w) (hE : ∀ c r D w a, E D c w → Rl n r D a → F r → Q (.panic c) a w) :
    ∀ (fuel : Nat) (listed : Array Bool) (r : Env) (D : List Deferred) (a : Act) (w : World), Kept S w0 w → Rl n r D a → F r →
      cdrawF P ops S w0 fuel listed r D w K E → wpAnyLast P .any ops Q (Kept S w0) [] fuel listed a w
  | 0, listed, r, D, a, w, hs, hr, hF, h => by
    unfold cdrawF at h
    split at h
    · rename_i he
      exact ⟨he, hK _ _ _ _ h hr hF⟩
    · exact h.elim
  | fuel + 1, listed, r, D, a, w, hs, hr, hF, h => by
    unfold cdrawF at h
    rw [nrm_eq] at h
    split at h
    · rename_i he
      exact ⟨fun _ => hK _ _ _ _ h hr hF, fun i hi => by rw [he] at hi; cases hi⟩
    · rename_i he
      split at h
      · rename_i i hfi
        have hmv := List.find?_some hfi
        split at h
        · exact h.elim
        · rename_i o ho
          have ho' : ops[i]? = some o := by rw [← Array.getElem?_toList]; exact ho
          have hd : dstOk n o = true := List.all_eq_true.1 hall o (List.mem_of_getElem? ho)
          have hput := fun v => hcl o (List.mem_of_getElem? ho) r v hF
          have hQ' : ∀ (v : Value) c a w, Q (.panic c) (a.put o.dst v) w → Q (.panic c) a w := hQ o (List.mem_of_getElem? ho)
          unfold movable at hmv
          rw [ho] at hmv
          dsimp only at hmv
          by_cases hpure : isPure P o.op = true
          · rw [if_pos hpure] at hmv
            have fin : ∀ v, Yields P ops o v a → cdrawF P ops S w0 fuel (listed.setIfInBounds i true) (putE r o.dst v) D w K E → wpAnyLast P .any ops Q (Kept S w0) [] (fuel + 1) listed a w := fun v hy hc =>
              pure_ _ ho' rfl hmv (hQ' v) hy rfl (cdrawF_ok F hall hcl hQ hK hE fuel _ _ D _ w hs (hr.put v (dst_lt hd)) (hput v) hc)
            rcases guard_cases hr h with ⟨hw, h1⟩ | ⟨hw, h1⟩
            · rw [if_pos hpure, ← hr.eval] at h1
              obtain ⟨v, hk, hrun⟩ := pureW_run hpure h1
              exact fin v (.inl ⟨hw, hrun⟩) hk
            · exact fin undef (.inr ⟨hw, rfl⟩) h1
          · rw [if_neg hpure, Bool.and_eq_true] at hmv
            have fin : ∀ v, YieldsIf P ops (Kept S w0) o v a → cdrawF P ops S w0 fuel (listed.setIfInBounds i true) (putE r o.dst v) D w K E → wpAnyLast P .any ops Q (Kept S w0) [] (fuel + 1) listed a w := fun v hy hc =>
              take_ _ ho' rfl hmv.2 (hQ' v) hy hs rfl (cdrawF_ok F hall hcl hQ hK hE fuel _ _ D _ w hs (hr.put v (dst_lt hd)) (hput v) hc)
            rcases guard_cases hr h with ⟨hw, h1⟩ | ⟨hw, h1⟩
            · rw [if_neg hpure, ← hr.eval] at h1
              unfold loadOpS at h1
              split at h1
              · rename_i t x hop
                obtain ⟨hn, h1⟩ := h1
                obtain ⟨v, hk, hrun⟩ := loadW_stableS (S := S) (fun A hA hS => by rw [hA] at hn; exact hn hS) h1
                refine fin v (.inl ⟨hw, fun w' hw' => ?_⟩) hk
                obtain ⟨dst, op, ty, pos, after, guard⟩ := o
                dsimp only at hop
                subst hop
                exact next_ok (hrun w' hw')
              · exact h1.elim
            · exact fin undef (.inr ⟨hw, rfl⟩) h1
      · refine ⟨fun e => absurd e he, fun i hi => ?_⟩
        have h := allL_mem h i hi
        split at h
        · exact h.elim
        · rename_i o ho
          have ho' : ops[i]? = some o := by rw [← Array.getElem?_toList]; exact ho
          have hd : dstOk n o = true := List.all_eq_true.1 hall o (List.mem_of_getElem? ho)
          have hput := fun v => hcl o (List.mem_of_getElem? ho) r v hF
          unfold wpOp
          rw [ho']
          dsimp only
          rcases guard_cases hr h with ⟨hw, h1⟩ | ⟨hw, h1⟩
          · rw [if_pos hw]
            exact .inl (opW_ok hr hd h1 (fun r' D' a' w' hk hr' hr2 => ⟨fun _ _ => hk.1, cdrawF_ok F hall hcl hQ hK hE fuel _ r' D' a' w' hk.1 hr' (by obtain ⟨v, rfl⟩ := hr2; exact hput v) hk.2⟩) (fun c w' he => hE c _ D w' a he hr hF))
          · rw [if_neg (by simp [hw])]
            exact ⟨fun _ h => h, cdrawF_ok F hall hcl hQ hK hE fuel _ _ D _ w hs (hr.put undef (dst_lt hd)) (hput undef) h1⟩
/-! ### a drawn region whose orders are told as a tree -/
inductive Tr where
  | nil
  | done
  | mv (i : Nat) (t : Tr)
  | w1 (i : Nat) (t : Tr)
  | wr (i : Nat) (t rest : Tr)
def mvW (P : Program) (ops : Array Oper) (S : Nat → Prop) (w0 : World) (i : Nat) (r : Env) (K : Env → Prop) : Prop := match ops.toList[i]? with
  | none => False
  | some o => guardW ops.toList r o
    (fun r => if isPure P o.op then pureW P (val r) o.op fun v => K (putE r o.dst v) else loadOpS P (val r) o.op S w0 fun v => K (putE r o.dst v))
    (fun r => K (putE r o.dst undef))
def wrW (P : Program) (ops : Array Oper) (S : Nat → Prop) (w0 : World) (i : Nat) (r : Env) (D : List Deferred) (w : World) (K : PostN) (E : PostP) : Prop := match ops.toList[i]? with
  | none => False
  | some o => guardW ops.toList r o
    (fun r => opW P o r D w (fun r D w' => Kept S w0 w' ∧ K r D w') E)
    (fun r => K (putE r o.dst undef) D w)
def cdrawT (P : Program) (ops : Array Oper) (S : Nat → Prop) (w0 : World) : Tr → Env → List Deferred → World → PostN → PostP → Prop
  | .nil, _, _, _, _, _ => True
  | .done, r, D, w, K, _ => K r D w
  | .mv i t, r, D, w, K, E => mvW P ops S w0 i r fun r => cdrawT P ops S w0 t r D w K E
  | .w1 i t, r, D, w, K, E => wrW P ops S w0 i r D w (fun r D w => cdrawT P ops S w0 t r D w K E) E
  | .wr i t rest, r, D, w, K, E => wrW P ops S w0 i r D w (fun r D w => cdrawT P ops S w0 t r D w K E) E ∧ cdrawT P ops S w0 rest r D w K E
def Tr.idx : Tr → List Nat
  | .w1 i _ => [i]
  | .wr i _ rest => i :: rest.idx
  | _ => []
def Tr.dep : Tr → Nat
  | .nil => 0
  | .done => 0
  | .mv _ t => t.dep + 1
  | .w1 _ t => t.dep + 1
  | .wr _ t rest => max (t.dep + 1) rest.dep
def okT (P : Program) (ops : Array Oper) : Bool → Tr → Array Bool → Bool
  | _, .nil, _ => false
  | b, .done, l => b && (Region.ready .any ops l).isEmpty
  | b, .mv i t, l => b && ((Region.ready .any ops l).find? (movable P ops l) == some i) && okT P ops true t (l.setIfInBounds i true)
  | b, .w1 i t, l => (!b || (Region.ready .any ops l == [i])) && okT P ops true t (l.setIfInBounds i true)
  | b, .wr i t rest, l => (!b || (Region.ready .any ops l == i :: rest.idx)) && okT P ops true t (l.setIfInBounds i true) && okT P ops false rest l
theorem wpLast_nil {P : Program} {ops : Array Oper} {Q : Exit → Act → World → Prop} {S : World → Prop} {ds : List Nat} {listed : Array Bool} {a : Act} {w : World} (he : Region.ready .any ops listed = []) (hq : Q .normal a w) : ∀ fuel, wpAnyLast P .any ops Q S ds fuel listed a w
  | 0 => ⟨he, hq⟩
  | fuel + 1 => ⟨fun _ => hq, fun i hi => by rw [he] at hi; cases hi⟩
theorem wrW_ok {n : Nat} {ops : Array Oper} {S : Nat → Prop} {w0 : World} {E : PostP} {Q : Exit → Act → World → Prop} {K : PostN} {i fuel : Nat} {listed : Array Bool} {r : Env} {D : List Deferred} {a : Act} {w : World} (F : Env → Prop) (hall : ops.toList.all (dstOk n) = true) (hcl : ∀ o ∈ ops.toList, ∀ r v, F r → F (putE r o.dst v))
    (hE : ∀ c r D w a, E D c w → Rl n r D a → F r → Q (.panic c) a w) (hs : Kept S w0 w) (hr : Rl n r D a) (hF : F r)
    (hK : ∀ r' D' a' w', K r' D' w' → Kept S w0 w' → Rl n r' D' a' → F r' → wpAnyLast P .any ops Q (Kept S w0) [] fuel (listed.setIfInBounds i true) a' w')
    (h : wrW P ops S w0 i r D w K E) : wpOp P ops Q i (fun a' w' => (i ∉ [] → Kept S w0 w → Kept S w0 w') ∧ wpAnyLast P .any ops Q (Kept S w0) [] fuel (listed.setIfInBounds i true) a' w') a w := by
  unfold wrW at h
  split at h
  · exact h.elim
  · rename_i o ho
    have ho' : ops[i]? = some o := by rw [← Array.getElem?_toList]; exact ho
    have hd : dstOk n o = true := List.all_eq_true.1 hall o (List.mem_of_getElem? ho)
    have hput := fun v => hcl o (List.mem_of_getElem? ho) r v hF
    unfold wpOp
    rw [ho']
    dsimp only
    rcases guard_cases hr h with ⟨hw, h1⟩ | ⟨hw, h1⟩
    · rw [if_pos hw]
      exact .inl (opW_ok hr hd h1 (fun r' D' a' w' hk hr' hr2 => ⟨fun _ _ => hk.1, hK r' D' a' w' hk.2 hk.1 hr' (by obtain ⟨v, rfl⟩ := hr2; exact hput v)⟩) (fun c w' he => hE c _ D w' a he hr hF))
    · rw [if_neg (by simp [hw])]
      exact ⟨fun _ h => h, hK _ D _ w h1 hs (hr.put undef (dst_lt hd)) (hput undef)⟩
theorem cdrawT_ok {n : Nat} {ops : Array Oper} {S : Nat → Prop} {w0 : World} {K : PostN} {E : PostP} {Q : Exit → Act → World → Prop} (F : Env → Prop) (hall : ops.toList.all (dstOk n) = true) (hcl : ∀ o ∈ ops.toList, ∀ r v, F r → F (putE r o.dst v))
    (hQ : ∀ o ∈ ops.toList, ∀ (v : Value) c a w, Q (.panic c) (a.put o.dst v) w → Q (.panic c) a w)
    (hK : ∀ r D w a, K r D w → Rl n r D a → F r → Q .normal a w) (hE : ∀ c r D w a, E D c w → Rl n r D a → F r → Q (.panic c) a w) :
    ∀ (tr : Tr) (b : Bool) (fuel : Nat) (listed : Array Bool) (r : Env) (D : List Deferred) (a : Act) (w : World), Kept S w0 w → Rl n r D a → F r → okT P ops b tr listed = true → tr.dep ≤ fuel →
      cdrawT P ops S w0 tr r D w K E → (b = true → wpAnyLast P .any ops Q (Kept S w0) [] fuel listed a w) ∧
        (∀ i ∈ tr.idx, wpOp P ops Q i (fun a' w' => (i ∉ [] → Kept S w0 w → Kept S w0 w') ∧ wpAnyLast P .any ops Q (Kept S w0) [] (fuel - 1) (listed.setIfInBounds i true) a' w') a w)
  | .nil, b, fuel, listed, r, D, a, w, hs, hr, hF, ho, hf, h => by simp [okT] at ho
  | .done, b, fuel, listed, r, D, a, w, hs, hr, hF, ho, hf, h => by
    simp only [okT, Bool.and_eq_true, List.isEmpty_iff] at ho
    exact ⟨fun _ => wpLast_nil ho.2 (hK _ _ _ _ h hr hF) fuel, fun i hi => by cases hi⟩
  | .mv i t, b, 0, listed, r, D, a, w, hs, hr, hF, ho, hf, h => by simp [Tr.dep] at hf
  | .mv i t, b, fuel + 1, listed, r, D, a, w, hs, hr, hF, ho, hf, h => by
    refine ⟨fun _ => ?_, fun i hi => by cases hi⟩
    simp only [okT, Bool.and_eq_true, beq_iff_eq] at ho
    obtain ⟨⟨_, hfi⟩, hot⟩ := ho
    have hft : t.dep ≤ fuel := by simp only [Tr.dep] at hf; omega
    have hmv := List.find?_some hfi
    simp only [cdrawT, mvW] at h
    split at h
    · exact h.elim
    · rename_i o ho
      have ho' : ops[i]? = some o := by rw [← Array.getElem?_toList]; exact ho
      have hd : dstOk n o = true := List.all_eq_true.1 hall o (List.mem_of_getElem? ho)
      have hput := fun v => hcl o (List.mem_of_getElem? ho) r v hF
      have hQ' : ∀ (v : Value) c a w, Q (.panic c) (a.put o.dst v) w → Q (.panic c) a w := hQ o (List.mem_of_getElem? ho)
      unfold movable at hmv
      rw [ho] at hmv
      dsimp only at hmv
      by_cases hpure : isPure P o.op = true
      · rw [if_pos hpure] at hmv
        have fin : ∀ v, Yields P ops o v a → cdrawT P ops S w0 t (putE r o.dst v) D w K E → wpAnyLast P .any ops Q (Kept S w0) [] (fuel + 1) listed a w := fun v hy hc =>
          pure_ _ ho' rfl hmv (hQ' v) hy rfl ((cdrawT_ok F hall hcl hQ hK hE t true fuel _ _ D _ w hs (hr.put v (dst_lt hd)) (hput v) hot hft hc).1 rfl)
        rcases guard_cases hr h with ⟨hw, h1⟩ | ⟨hw, h1⟩
        · rw [if_pos hpure, ← hr.eval] at h1
          obtain ⟨v, hk, hrun⟩ := pureW_run hpure h1
          exact fin v (.inl ⟨hw, hrun⟩) hk
        · exact fin undef (.inr ⟨hw, rfl⟩) h1
      · rw [if_neg hpure, Bool.and_eq_true] at hmv
        have fin : ∀ v, YieldsIf P ops (Kept S w0) o v a → cdrawT P ops S w0 t (putE r o.dst v) D w K E → wpAnyLast P .any ops Q (Kept S w0) [] (fuel + 1) listed a w := fun v hy hc =>
          take_ _ ho' rfl hmv.2 (hQ' v) hy hs rfl ((cdrawT_ok F hall hcl hQ hK hE t true fuel _ _ D _ w hs (hr.put v (dst_lt hd)) (hput v) hot hft hc).1 rfl)
        rcases guard_cases hr h with ⟨hw, h1⟩ | ⟨hw, h1⟩
        · rw [if_neg hpure, ← hr.eval] at h1
          unfold loadOpS at h1
          split at h1
          · rename_i t x hop
            obtain ⟨hn, h1⟩ := h1
            obtain ⟨v, hk, hrun⟩ := loadW_stableS (S := S) (fun A hA hS => by rw [hA] at hn; exact hn hS) h1
            refine fin v (.inl ⟨hw, fun w' hw' => ?_⟩) hk
            obtain ⟨dst, op, ty, pos, after, guard⟩ := o
            dsimp only at hop
            subst hop
            exact next_ok (hrun w' hw')
          · exact h1.elim
        · exact fin undef (.inr ⟨hw, rfl⟩) h1
  | .w1 i t, b, 0, listed, r, D, a, w, hs, hr, hF, ho, hf, h => by simp [Tr.dep] at hf
  | .w1 i t, b, fuel + 1, listed, r, D, a, w, hs, hr, hF, ho, hf, h => by
    simp only [okT, Bool.and_eq_true] at ho
    have hft : t.dep ≤ fuel := by simp only [Tr.dep] at hf; omega
    simp only [cdrawT] at h
    have one := wrW_ok F hall hcl hE hs hr hF (fun r' D' a' w' hk hs' hr' hF' => (cdrawT_ok F hall hcl hQ hK hE t true fuel _ r' D' a' w' hs' hr' hF' ho.2 hft hk).1 rfl) h
    have all : ∀ j ∈ (Tr.w1 i t).idx, wpOp P ops Q j (fun a' w' => (j ∉ [] → Kept S w0 w → Kept S w0 w') ∧ wpAnyLast P .any ops Q (Kept S w0) [] fuel (listed.setIfInBounds j true) a' w') a w := fun j hj => by
      obtain rfl := List.mem_singleton.1 hj
      exact one
    refine ⟨fun hb => ⟨fun e => ?_, fun j hj => all j ?_⟩, all⟩
    · subst hb
      simp [e] at ho
    · subst hb
      simp only [Bool.not_true, Bool.false_or, beq_iff_eq] at ho
      rw [ho.1] at hj
      exact hj
  | .wr i t rest, b, 0, listed, r, D, a, w, hs, hr, hF, ho, hf, h => by simp only [Tr.dep] at hf; omega
  | .wr i t rest, b, fuel + 1, listed, r, D, a, w, hs, hr, hF, ho, hf, h => by
    simp only [okT, Bool.and_eq_true] at ho
    have hft : t.dep ≤ fuel := by simp only [Tr.dep] at hf; omega
    have hfr : rest.dep ≤ fuel + 1 := by simp only [Tr.dep] at hf; omega
    simp only [cdrawT] at h
    have one := wrW_ok F hall hcl hE hs hr hF (fun r' D' a' w' hk hs' hr' hF' => (cdrawT_ok F hall hcl hQ hK hE t true fuel _ r' D' a' w' hs' hr' hF' ho.1.2 hft hk).1 rfl) h.1
    have more := (cdrawT_ok F hall hcl hQ hK hE rest false (fuel + 1) listed r D a w hs hr hF ho.2 hfr h.2).2
    have all : ∀ j ∈ (Tr.wr i t rest).idx, wpOp P ops Q j (fun a' w' => (j ∉ [] → Kept S w0 w → Kept S w0 w') ∧ wpAnyLast P .any ops Q (Kept S w0) [] fuel (listed.setIfInBounds j true) a' w') a w := fun j hj => by
      rcases List.mem_cons.1 hj with rfl | hj
      · exact one
      · exact more j hj
    refine ⟨fun hb => ⟨fun e => ?_, fun j hj => all j ?_⟩, all⟩
    · subst hb
      simp [e] at ho
    · subst hb
      simp only [Bool.not_true, Bool.false_or, beq_iff_eq] at ho
      rw [ho.1.1] at hj
      exact hj
/-- a tree out of a row of numbers: 0 nothing more · 1 i t · 2 i t · 3 i t rest -/
def treeP : Nat → List Nat → Tr × List Nat
  | 0, l => (.nil, l)
  | _ + 1, [] => (.nil, [])
  | f + 1, k :: l => match k with
    | 0 => (.done, l)
    | 1 => (match l with
      | i :: l => (.mv i (treeP f l).1, (treeP f l).2)
      | [] => (.nil, []))
    | 2 => (match l with
      | i :: l => (.w1 i (treeP f l).1, (treeP f l).2)
      | [] => (.nil, []))
    | _ => (match l with
      | i :: l => (.wr i (treeP f l).1 (treeP f (treeP f l).2).1, (treeP f (treeP f l).2).2)
      | [] => (.nil, []))
def treeOf (l : List Nat) : Tr := (treeP l.length l).1
end Go.Proofs.YtpolbdakhfcilaaGreatDoorEng
