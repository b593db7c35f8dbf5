/-
  A clean form of the walk, second part: the operations that look at no memory do what 'pureW' says, in every world.
-/
import Derived.Test.YtpolbdakhfcilaaGreatDoorEngA
import Derived.Laws.StructEq
namespace Go.Proofs.YtpolbdakhfcilaaGreatDoorEng
open Go
set_option linter.unusedSimpArgs false
set_option linter.unusedVariables false
variable {P : Program}

/-- a value is made, in every world, and nothing else is done -/
def Runs (P : Program) (s : Sem Value) (v : Value) : Prop := ∀ w, s.run P w = .ok v w

theorem und_some {t : TypeId} {d : TypeDesc} (h : P.underlying t = some d) (w : World) : (underlying t).run P w = .ok d w := by
  simp [underlying, program, Sem.run, h, bind, Sem.bind, pure]
theorem info_some {t : TypeId} {i : TypeInfo} (h : P.info? t = some i) (w : World) : (typeInfo t).run P w = .ok i w := by
  simp [typeInfo, program, Sem.run, h, bind, Sem.bind, pure]

theorem wSome_elim {A : Option Addr} {K : Addr → Prop} (h : wSome A K) : ∃ a, A = some a ∧ K a := by
  unfold wSome at h; split at h
  · exact ⟨_, rfl, h⟩
  · exact h.elim
theorem wPtr_elim {v : Value} {K : Addr → Prop} (h : wPtr v K) : ∃ A, v = .pointer (some A) ∧ K A := by
  unfold wPtr at h; split at h
  · obtain ⟨a, rfl, h1⟩ := wSome_elim h; exact ⟨a, rfl, h1⟩
  · exact h.elim
theorem wSlice_elim {v : Value} {K : Option Addr → Nat → Nat → Prop} (h : wSlice v K) : ∃ A n c, v = .slice A n c ∧ K A n c := by
  unfold wSlice at h; split at h
  · exact ⟨_, _, _, rfl, h⟩
  · exact h.elim
theorem wStr_elim {v : Value} {K : ByteArray → Prop} (h : wStr v K) : ∃ s, v = .string s ∧ K s := by
  unfold wStr at h; split at h
  · exact ⟨_, rfl, h⟩
  · exact h.elim
theorem wBool_elim {v : Value} {K : Bool → Prop} (h : wBool v K) : ∃ b, v = .bool b ∧ K b := by
  unfold wBool at h; split at h
  · exact ⟨_, rfl, h⟩
  · exact h.elim
theorem wInt_elim {v : Value} {K : IntKind → Int → Prop} (h : wInt v K) : ∃ k n, v = .int k n ∧ K k n := by
  unfold wInt at h; split at h
  · exact ⟨_, _, rfl, h⟩
  · exact h.elim
theorem wAgg_elim {v : Value} {K : List Value → Prop} (h : wAgg v K) : ∃ cs, v = .agg cs ∧ K cs.toList := by
  unfold wAgg at h; split at h
  · exact ⟨_, rfl, h⟩
  · exact h.elim

theorem intW_run {op : BinOp} {t : TypeId} {k k' : IntKind} {a b : Int} {K : Value → Prop} (h : intW op k a k' b K) : ∃ v, K v ∧ Runs P (binOp op t (.int k a) (.int k' b)) v := by
  cases op <;> simp only [intW] at h
  case shl => obtain ⟨h0, h1⟩ := h; exact ⟨_, h1, fun w => by simp [binOp, Op.shift, Int.not_lt.2 h0, Sem.run, pure]⟩
  case shr => obtain ⟨h0, h1⟩ := h; exact ⟨_, h1, fun w => by simp [binOp, Op.shift, Int.not_lt.2 h0, Sem.run, pure]⟩
  case quo => split at h; · subst k'; exact ⟨_, h.2, fun w => by simp [binOp, Op.intDiv, h.1, Sem.run, pure]⟩
              · exact h.elim
  case rem => split at h; · subst k'; exact ⟨_, h.2, fun w => by simp [binOp, Op.intDiv, h.1, Sem.run, pure]⟩
              · exact h.elim
  all_goals (split at h; · subst k'; exact ⟨_, h, fun w => by simp [binOp, Op.intArith, Op.intBits, Op.intCmp, Sem.run, pure]⟩
             · exact h.elim)

theorem strW_run {op : BinOp} {t : TypeId} {a b : ByteArray} {K : Value → Prop} (h : strW op a b K) : ∃ v, K v ∧ Runs P (binOp op t (.string a) (.string b)) v := by
  cases op <;> simp only [strW] at h
  case add => obtain ⟨h0, h1⟩ := h; exact ⟨_, h1, fun w => by simp only [binOp, Op.stringOp]; rw [if_neg (by omega)]; rfl⟩
  all_goals first
    | exact ⟨_, h, fun w => by simp [binOp, Op.stringOp, Sem.run, pure]⟩
    | exact h.elim

theorem eqW_run {op : BinOp} {t : TypeId} {x y : Value} {b : Bool} {K : Value → Prop} (h : eqW op b K) (hx : ∀ w, (Op.equal t x y).run P w = .ok b w)
    (he : ∀ w, (binOp .eql t x y).run P w = (do pure (.bool (← Op.equal t x y)) : Sem Value).run P w) (hn : ∀ w, (binOp .neq t x y).run P w = (do pure (.bool (!(← Op.equal t x y))) : Sem Value).run P w) : ∃ v, K v ∧ Runs P (binOp op t x y) v := by
  cases op <;> simp only [eqW] at h
  case eql => exact ⟨_, h, fun w => by rw [he]; simp [hx]⟩
  case neq => exact ⟨_, h, fun w => by rw [hn]; simp [hx]⟩
  all_goals exact h.elim

theorem kind_bool {t : TypeId} (h : kindOf P t = 1) : P.underlying t = some .bool := by
  unfold kindOf at h; split at h <;> first | assumption | cases h
theorem kind_int {t : TypeId} (h : kindOf P t = 2) : ∃ k, P.underlying t = some (.int k) := by
  unfold kindOf at h; split at h <;> first | exact ⟨_, ‹_›⟩ | cases h
theorem kind_str {t : TypeId} (h : kindOf P t = 3) : P.underlying t = some .string := by
  unfold kindOf at h; split at h <;> first | assumption | cases h
theorem kind_ptr {t : TypeId} (h : kindOf P t = 4) : ∃ e, P.underlying t = some (.pointer e) := by
  unfold kindOf at h; split at h <;> first | exact ⟨_, ‹_›⟩ | cases h
theorem kind_slice {t : TypeId} (h : kindOf P t = 5) : P.underlying t = some (.slice (elemOfT P t)) := by
  unfold kindOf at h; split at h <;> first | exact absurd h (by decide) | (rename_i he; simp [elemOfT, he])
theorem kind_arr {t : TypeId} (h : kindOf P t = 6) : P.underlying t = some (.array (lenOfT P t) (elemOfT P t)) := by
  unfold kindOf at h; split at h <;> first | exact absurd h (by decide) | (rename_i he; simp [elemOfT, lenOfT, he])
theorem kind_map {t : TypeId} (h : kindOf P t = 7) : ∃ k e, P.underlying t = some (.map k e) := by
  unfold kindOf at h; split at h <;> first | exact ⟨_, _, ‹_›⟩ | cases h
theorem kind_func {t : TypeId} (h : kindOf P t = 9) : ∃ a b c, P.underlying t = some (.func a b c) := by
  unfold kindOf at h; split at h <;> first | exact ⟨_, _, _, ‹_›⟩ | cases h
theorem kind_iface {t : TypeId} (h : kindOf P t = 10) : ∃ m, P.underlying t = some (.interface m) := by
  unfold kindOf at h; split at h <;> first | exact ⟨_, ‹_›⟩ | cases h

theorem equal_of {t : TypeId} {x y : Value} {b : Bool} (h : ∀ d w, (Op.equalIn (d + 1) t x y).run P w = .ok b w) (w : World) : (Op.equal t x y).run P w = .ok b w := h 9999 w

theorem leaf_run {t : TypeId} (hk : leafK (kindOf P t) = true) {v u : Value} {b : Bool} (h : leafEq (kindOf P t) v u = some b) (d : Nat) (w : World) : (Op.equalIn (d + 1) t v u).run P w = .ok b w := by
  generalize hk0 : kindOf P t = k at hk h
  unfold leafEq at h
  split at h
  · injection h with h; subst h
    simp [Op.equalIn, und_some (kind_bool hk0)]
  · split at h
    · rename_i hkk
      subst hkk
      injection h with h; subst h
      obtain ⟨k', hk'⟩ := kind_int hk0
      simp [Op.equalIn, und_some hk']
    · cases h
  · injection h with h; subst h
    rw [run_equalIn_string w d t _ _ (kind_str hk0)]
  · cases h
theorem leaf_part {t : TypeId} (hk : leafK (kindOf P t) = true) {cs : Array Value} {o : Nat} {v : Value} (h : cs[o]? = some v) (w : World) : (part t cs o).run P w = .ok v w := by
  simp only [leafK, Bool.or_eq_true, beq_iff_eq] at hk
  rcases hk with (hk | hk) | hk
  · simp [part, isAgg, und_some (kind_bool hk), h]
  · obtain ⟨k, hk⟩ := kind_int hk
    simp [part, isAgg, und_some hk, h]
  · simp [part, isAgg, und_some (kind_str hk), h]
theorem eqsL_cons {k : Nat} {ks : List Nat} {xs ys : List Value} {b : Bool} (h : eqsL (k :: ks) xs ys = some b) : ∃ v vs u us a c, xs = v :: vs ∧ ys = u :: us ∧ leafEq k v u = some a ∧ eqsL ks vs us = some c ∧ b = (a && c) := by
  cases xs with
  | nil => simp [eqsL] at h
  | cons v vs =>
    cases ys with
    | nil => simp [eqsL] at h
    | cons u us =>
      simp only [eqsL] at h
      cases ha : leafEq k v u with
      | none => simp [ha] at h
      | some a =>
        cases hc : eqsL ks vs us with
        | none => simp [ha, hc] at h
        | some c =>
          simp only [ha, hc, Option.some.injEq] at h
          exact ⟨v, vs, u, us, a, c, rfl, rfl, ha, hc, h.symm⟩
theorem drop_head {xs : Array Value} {i : Nat} {v : Value} {vs : List Value} (h : xs.toList.drop i = v :: vs) : xs[i]? = some v ∧ xs.toList.drop (i + 1) = vs := by
  have h1 : xs.toList[i]? = some v := by
    have := congrArg (·[0]?) h
    simpa using this
  refine ⟨by rw [← h1]; simp, ?_⟩
  have := congrArg List.tail h
  simpa using this
theorem flat_fields : ∀ (fs : List Field) (i : Nat) (ks : List Nat), flatF P i fs = some ks → ∀ (xs ys : Array Value) (b : Bool), eqsL ks (xs.toList.drop i) (ys.toList.drop i) = some b → ∀ d w, (Op.eqFields (d + 1) xs ys fs).run P w = .ok b w
  | [], i, ks, h, xs, ys, b, hb, d, w => by
    simp only [flatF, Option.some.injEq] at h
    subst h
    unfold eqsL at hb
    split at hb
    · injection hb with hb; subst hb; simp [Op.eqFields]
    · rename_i e _ _; cases e
    · cases hb
  | f :: fs, i, ks, h, xs, ys, b, hb, d, w => by
    simp only [flatF] at h
    split at h
    · cases h
    rename_i hn
    split at h
    · rename_i hf
      obtain ⟨ho, hk⟩ := hf
      cases hr : flatF P (i + 1) fs with
      | none => simp [hr] at h
      | some ks' =>
        simp only [hr, Option.some.injEq] at h
        subst h
        obtain ⟨v, vs, u, us, a, c, hx, hy, ha, hc, rfl⟩ := eqsL_cons hb
        obtain ⟨x1, x2⟩ := drop_head hx
        obtain ⟨y1, y2⟩ := drop_head hy
        have ih := flat_fields fs (i + 1) ks' hr xs ys c (by rw [x2, y2]; exact hc) d
        rw [Op.eqFields]
        simp only [ne_eq, hn, not_false_eq_true, if_true, Sem.run_bind, ho, leaf_part hk x1 w, leaf_part hk y1 w, leaf_run hk ha d w, Result.andThen_ok]
        cases a
        · simp
        · simp [ih w]
    · cases h
/-- the rows of an array, from a place on -/
theorem flat_rows {e : TypeId} (hk : leafK (kindOf P e) = true) (hs : cellOfT P e = 1) : ∀ (m i : Nat) (xs ys : Array Value) (b : Bool), eqsL (List.replicate m (kindOf P e)) (xs.toList.drop i) (ys.toList.drop i) = some b → ∀ d w,
    (forIn (List.range' i m 1) (((none : Option Bool), ()) : Option Bool × Unit) fun i r => (do
      if (!(← Op.equalIn (d + 1) e (← part e xs (i * 1)) (← part e ys (i * 1)))) = true then pure (ForInStep.done (some false, ())) else pure (ForInStep.yield (none, ())) : Sem _)).run P w = .ok (if b then (none, ()) else (some false, ())) w
  | 0, i, xs, ys, b, hb, d, w => by
    simp only [List.replicate] at hb
    unfold eqsL at hb
    split at hb
    · injection hb with hb; subst hb; simp
    · rename_i e _ _; cases e
    · cases hb
  | m + 1, i, xs, ys, b, hb, d, w => by
    rw [List.replicate_succ] at hb
    obtain ⟨v, vs, u, us, a, c, hx, hy, ha, hc, rfl⟩ := eqsL_cons hb
    obtain ⟨x1, x2⟩ := drop_head hx
    obtain ⟨y1, y2⟩ := drop_head hy
    have ih := flat_rows hk hs m (i + 1) xs ys c (by rw [x2, y2]; exact hc) d w
    rw [List.range'_succ, List.forIn_cons]
    simp only [Sem.run_bind, Nat.mul_one, leaf_part hk x1 w, leaf_part hk y1 w, leaf_run hk ha d w, Result.andThen_ok]
    cases a
    · simp
    · simp only [Nat.mul_one] at ih
      simpa using ih
theorem flat_run {t : TypeId} {ks : List Nat} (hf : flatK P t = some ks) {xs ys : Array Value} {b : Bool} (hb : eqsL ks xs.toList ys.toList = some b) (d : Nat) (w : World) : (Op.equalIn (d + 2) t (.agg xs) (.agg ys)).run P w = .ok b w := by
  unfold flatK at hf
  split at hf
  · cases hf
  split at hf
  · rename_i fs hu
    split at hf
    · cases hf
    rename_i hp
    have hfs : P.fieldsOf t = fs := by simp [Program.fieldsOf, hu]
    rw [run_equalIn_struct (P := P) w (d + 1) t xs ys (by rw [hfs]; exact hu) (by simpa using hp), hfs]
    exact flat_fields fs.toList 0 ks hf xs ys b (by simpa using hb) d w
  · rename_i n e hu
    split at hf
    · rename_i hk
      injection hf with hf; subst hf
      have := flat_rows hk.1 hk.2 n 0 xs ys b (by simpa using hb) d w
      have hsz : (sizeOf e).run P w = .ok 1 w := by
        have h1 := hk.2
        unfold cellOfT at h1
        cases hi : P.info? e with
        | none => simp [hi] at h1
        | some i => simp only [hi] at h1; simp [sizeOf, info_some hi, h1]
      rw [Op.equalIn]
      simp only [Sem.run_bind, und_some hu, Result.andThen_ok, hsz, Std.Legacy.Range.forIn_eq_forIn_range', Std.Legacy.Range.size, Nat.sub_zero, Nat.add_sub_cancel, Nat.div_one]
      rw [this]
      cases b <;> simp
    · cases hf
  · cases hf

theorem binW0_run {op : BinOp} {t : TypeId} {x y : Value} {K : Value → Prop} (h : binW0 P op t x y K) : ∃ v, K v ∧ Runs P (binOp op t x y) v := by
  unfold binW0 at h
  split at h
  · exact intW_run h
  · exact strW_run h
  · split at h
    · rename_i a b hk
      refine eqW_run h (equal_of fun d w => ?_) (fun w => by simp [binOp]) (fun w => by simp [binOp])
      simp [Op.equalIn, und_some (kind_bool hk)]
    · exact h.elim
  · split at h
    · rename_i a hk
      obtain ⟨e, he⟩ := kind_ptr hk
      refine eqW_run h (equal_of fun d w => ?_) (fun w => by simp [binOp]) (fun w => by simp [binOp])
      cases a <;> simp [Op.equalIn, und_some he]
    · exact h.elim
  · split at h
    · rename_i a _ _ _ _ hk
      refine eqW_run h (equal_of fun d w => ?_) (fun w => by simp [binOp]) (fun w => by simp [binOp])
      cases a <;> simp [Op.equalIn, und_some (kind_slice hk)]
    · exact h.elim
  · split at h
    · rename_i a hk
      obtain ⟨k, e, he⟩ := kind_map hk
      refine eqW_run h (equal_of fun d w => ?_) (fun w => by simp [binOp]) (fun w => by simp [binOp])
      cases a <;> simp [Op.equalIn, und_some he]
    · exact h.elim
  · unfold eqAggW at h
    split at h
    · rename_i ks hf
      split at h
      · rename_i b hb
        exact eqW_run h (fun w => flat_run hf hb 9998 w) (fun w => by simp [binOp]) (fun w => by simp [binOp])
      · exact h.elim
    · exact h.elim
  · split at h
    · rename_i hk
      obtain ⟨k, e, f, he⟩ := kind_func hk
      refine eqW_run h (equal_of fun d w => ?_) (fun w => by simp [binOp]) (fun w => by simp [binOp])
      simp [Op.equalIn, und_some he]
    · exact h.elim
  · split at h
    · rename_i hk
      obtain ⟨k, e, f, he⟩ := kind_func hk
      refine eqW_run h (equal_of fun d w => ?_) (fun w => by simp [binOp]) (fun w => by simp [binOp])
      simp [Op.equalIn, und_some he]
    · exact h.elim
  · exact h.elim
theorem ifEq_run {t : TypeId} {x y : Value} {b : Bool} {m : Array String} (hm : True) (h : ifEq P x y = some b) (he : ∃ m, P.underlying t = some (.interface m)) (d : Nat) (w : World) : (Op.equalIn (d + 2) t x y).run P w = .ok b w := by
  obtain ⟨m, he⟩ := he
  unfold ifEq at h
  split at h
  · rename_i t1 v t2 u
    split at h
    · rename_i ht
      subst ht
      split at h
      · rename_i hc
        have hi : ∃ i, P.info? t1 = some i ∧ i.comparable = true := by
          have h1 := hc.1
          unfold compT at h1
          cases hi : P.info? t1 with
          | none => simp [hi] at h1
          | some i => exact ⟨i, rfl, by simpa [hi] using h1⟩
        obtain ⟨i, hi, hcm⟩ := hi
        rw [Op.equalIn]
        simp [und_some he, info_some hi, hcm, leaf_run hc.2 h d w]
      · cases h
    · rename_i ht
      injection h with h; subst h
      rw [Op.equalIn]
      simp [und_some he, ht]
  · injection h with h; subst h
    simp [Op.equalIn, und_some he]
  · injection h with h; subst h
    simp [Op.equalIn, und_some he]
  · cases h
theorem binW_run {op : BinOp} {t : TypeId} {c : Bool} {x y : Value} {K : Value → Prop} (h : binW P op t c x y K) : ∃ v, K v ∧ Runs P (binOp op t x y) v := by
  unfold binW at h
  split at h
  · rename_i hk
    have he := kind_iface hk
    unfold eqIW at h
    split at h
    · obtain ⟨m, he⟩ := he
      unfold nilIW at h
      split at h
      · obtain ⟨hv, h⟩ := h
        rcases hv with rfl | ⟨u, z, rfl⟩
        · refine eqW_run h (equal_of fun d w => ?_) (fun w => by simp [binOp]) (fun w => by simp [binOp])
          simp [Op.equalIn, und_some he, isNilI]
        · refine eqW_run h (equal_of fun d w => ?_) (fun w => by simp [binOp]) (fun w => by simp [binOp])
          simp [Op.equalIn, und_some he, isNilI]
      · exact h.elim
    · obtain ⟨b, hb, h⟩ := h
      have hf : (∃ u z, x = .iface u z ∧ (y = .nilIface ∨ ∃ u z, y = .iface u z)) ∨ (x = .nilIface ∧ ∃ u z, y = .iface u z) := by
        unfold ifEq at hb
        split at hb
        · exact .inl ⟨_, _, rfl, .inr ⟨_, _, rfl⟩⟩
        · exact .inr ⟨rfl, _, _, rfl⟩
        · exact .inl ⟨_, _, rfl, .inl rfl⟩
        · cases hb
      refine eqW_run h (fun w => ifEq_run (m := #[]) trivial hb he 9998 w) (fun w => ?_) (fun w => ?_)
      · rcases hf with ⟨u, z, rfl, rfl | ⟨u', z', rfl⟩⟩ | ⟨rfl, u', z', rfl⟩ <;> simp [binOp]
      · rcases hf with ⟨u, z, rfl, rfl | ⟨u', z', rfl⟩⟩ | ⟨rfl, u', z', rfl⟩ <;> simp [binOp]
  · exact binW0_run h
end Go.Proofs.YtpolbdakhfcilaaGreatDoorEng
