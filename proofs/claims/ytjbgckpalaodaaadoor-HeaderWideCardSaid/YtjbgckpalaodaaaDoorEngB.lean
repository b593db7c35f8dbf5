/-
  A clean form of the walk, second part: the operations that look at no memory do what 'pureW' says, in every world.
-/
import Derived.Test.YtjbgckpalaodaaaDoorEngA
namespace Go.Proofs.YtjbgckpalaodaaaDoorEng
open Go
set_option linter.unusedSimpArgs false
set_option linter.unusedVariables false
variable {P : Program}

/-- a value is made, in every world, and nothing else is done -/
def Runs (P : Program) (s : Sem Value) (v : Value) : Prop := ∀ w, s.run P w = .ok v w

theorem und_some {t : TypeId} {d : TypeDesc} (h : P.underlying t = some d) (w : World) : (underlying t).run P w = .ok d w := by
  simp [underlying, program, Sem.run, h, bind, Sem.bind, pure]
theorem info_some {t : TypeId} {i : TypeInfo} (h : P.info? t = some i) (w : World) : (typeInfo t).run P w = .ok i w := by
  simp [typeInfo, program, Sem.run, h, bind, Sem.bind, pure]

theorem wSome_elim {A : Option Addr} {K : Addr → Prop} (h : wSome A K) : ∃ a, A = some a ∧ K a := by
  unfold wSome at h; split at h
  · exact ⟨_, rfl, h⟩
  · exact h.elim
theorem wPtr_elim {v : Value} {K : Addr → Prop} (h : wPtr v K) : ∃ A, v = .pointer (some A) ∧ K A := by
  unfold wPtr at h; split at h
  · obtain ⟨a, rfl, h1⟩ := wSome_elim h; exact ⟨a, rfl, h1⟩
  · exact h.elim
theorem wSlice_elim {v : Value} {K : Option Addr → Nat → Nat → Prop} (h : wSlice v K) : ∃ A n c, v = .slice A n c ∧ K A n c := by
  unfold wSlice at h; split at h
  · exact ⟨_, _, _, rfl, h⟩
  · exact h.elim
theorem wStr_elim {v : Value} {K : ByteArray → Prop} (h : wStr v K) : ∃ s, v = .string s ∧ K s := by
  unfold wStr at h; split at h
  · exact ⟨_, rfl, h⟩
  · exact h.elim
theorem wBool_elim {v : Value} {K : Bool → Prop} (h : wBool v K) : ∃ b, v = .bool b ∧ K b := by
  unfold wBool at h; split at h
  · exact ⟨_, rfl, h⟩
  · exact h.elim
theorem wInt_elim {v : Value} {K : IntKind → Int → Prop} (h : wInt v K) : ∃ k n, v = .int k n ∧ K k n := by
  unfold wInt at h; split at h
  · exact ⟨_, _, rfl, h⟩
  · exact h.elim
theorem wAgg_elim {v : Value} {K : List Value → Prop} (h : wAgg v K) : ∃ cs, v = .agg cs ∧ K cs.toList := by
  unfold wAgg at h; split at h
  · exact ⟨_, rfl, h⟩
  · exact h.elim

theorem intW_run {op : BinOp} {t : TypeId} {k k' : IntKind} {a b : Int} {K : Value → Prop} (h : intW op k a k' b K) : ∃ v, K v ∧ Runs P (binOp op t (.int k a) (.int k' b)) v := by
  cases op <;> simp only [intW] at h
  case shl => obtain ⟨h0, h1⟩ := h; exact ⟨_, h1, fun w => by simp [binOp, Op.shift, Int.not_lt.2 h0, Sem.run, pure]⟩
  case shr => obtain ⟨h0, h1⟩ := h; exact ⟨_, h1, fun w => by simp [binOp, Op.shift, Int.not_lt.2 h0, Sem.run, pure]⟩
  case quo => split at h; · subst k'; exact ⟨_, h.2, fun w => by simp [binOp, Op.intDiv, h.1, Sem.run, pure]⟩
              · exact h.elim
  case rem => split at h; · subst k'; exact ⟨_, h.2, fun w => by simp [binOp, Op.intDiv, h.1, Sem.run, pure]⟩
              · exact h.elim
  all_goals (split at h; · subst k'; exact ⟨_, h, fun w => by simp [binOp, Op.intArith, Op.intBits, Op.intCmp, Sem.run, pure]⟩
             · exact h.elim)

theorem strW_run {op : BinOp} {t : TypeId} {a b : ByteArray} {K : Value → Prop} (h : strW op a b K) : ∃ v, K v ∧ Runs P (binOp op t (.string a) (.string b)) v := by
  cases op <;> simp only [strW] at h
  case add => obtain ⟨h0, h1⟩ := h; exact ⟨_, h1, fun w => by simp only [binOp, Op.stringOp]; rw [if_neg (by omega)]; rfl⟩
  all_goals first
    | exact ⟨_, h, fun w => by simp [binOp, Op.stringOp, Sem.run, pure]⟩
    | exact h.elim

theorem eqW_run {op : BinOp} {t : TypeId} {x y : Value} {b : Bool} {K : Value → Prop} (h : eqW op b K) (hx : ∀ w, (Op.equal t x y).run P w = .ok b w)
    (he : ∀ w, (binOp .eql t x y).run P w = (do pure (.bool (← Op.equal t x y)) : Sem Value).run P w) (hn : ∀ w, (binOp .neq t x y).run P w = (do pure (.bool (!(← Op.equal t x y))) : Sem Value).run P w) : ∃ v, K v ∧ Runs P (binOp op t x y) v := by
  cases op <;> simp only [eqW] at h
  case eql => exact ⟨_, h, fun w => by rw [he]; simp [hx]⟩
  case neq => exact ⟨_, h, fun w => by rw [hn]; simp [hx]⟩
  all_goals exact h.elim

theorem kind_bool {t : TypeId} (h : kindOf P t = 1) : P.underlying t = some .bool := by
  unfold kindOf at h; split at h <;> first | assumption | cases h
theorem kind_str {t : TypeId} (h : kindOf P t = 3) : P.underlying t = some .string := by
  unfold kindOf at h; split at h <;> first | assumption | cases h
theorem kind_ptr {t : TypeId} (h : kindOf P t = 4) : ∃ e, P.underlying t = some (.pointer e) := by
  unfold kindOf at h; split at h <;> first | exact ⟨_, ‹_›⟩ | cases h
theorem kind_slice {t : TypeId} (h : kindOf P t = 5) : P.underlying t = some (.slice (elemOfT P t)) := by
  unfold kindOf at h; split at h <;> first | exact absurd h (by decide) | (rename_i he; simp [elemOfT, he])
theorem kind_arr {t : TypeId} (h : kindOf P t = 6) : P.underlying t = some (.array (lenOfT P t) (elemOfT P t)) := by
  unfold kindOf at h; split at h <;> first | exact absurd h (by decide) | (rename_i he; simp [elemOfT, lenOfT, he])
theorem kind_map {t : TypeId} (h : kindOf P t = 7) : ∃ k e, P.underlying t = some (.map k e) := by
  unfold kindOf at h; split at h <;> first | exact ⟨_, _, ‹_›⟩ | cases h
theorem kind_func {t : TypeId} (h : kindOf P t = 9) : ∃ a b c, P.underlying t = some (.func a b c) := by
  unfold kindOf at h; split at h <;> first | exact ⟨_, _, _, ‹_›⟩ | cases h
theorem kind_iface {t : TypeId} (h : kindOf P t = 10) : ∃ m, P.underlying t = some (.interface m) := by
  unfold kindOf at h; split at h <;> first | exact ⟨_, ‹_›⟩ | cases h

theorem equal_of {t : TypeId} {x y : Value} {b : Bool} (h : ∀ d w, (Op.equalIn (d + 1) t x y).run P w = .ok b w) (w : World) : (Op.equal t x y).run P w = .ok b w := h 9999 w

theorem binW_run {op : BinOp} {t : TypeId} {c : Bool} {x y : Value} {K : Value → Prop} (h : binW P op t c x y K) : ∃ v, K v ∧ Runs P (binOp op t x y) v := by
  unfold binW at h
  split at h
  · exact intW_run h
  · exact strW_run h
  · split at h
    · rename_i a b hk
      refine eqW_run h (equal_of fun d w => ?_) (fun w => by simp [binOp]) (fun w => by simp [binOp])
      simp [Op.equalIn, und_some (kind_bool hk)]
    · exact h.elim
  · split at h
    · rename_i a hk
      obtain ⟨e, he⟩ := kind_ptr hk
      refine eqW_run h (equal_of fun d w => ?_) (fun w => by simp [binOp]) (fun w => by simp [binOp])
      cases a <;> simp [Op.equalIn, und_some he]
    · exact h.elim
  · split at h
    · rename_i a _ _ _ _ hk
      refine eqW_run h (equal_of fun d w => ?_) (fun w => by simp [binOp]) (fun w => by simp [binOp])
      cases a <;> simp [Op.equalIn, und_some (kind_slice hk)]
    · exact h.elim
  · split at h
    · rename_i a hk
      obtain ⟨k, e, he⟩ := kind_map hk
      refine eqW_run h (equal_of fun d w => ?_) (fun w => by simp [binOp]) (fun w => by simp [binOp])
      cases a <;> simp [Op.equalIn, und_some he]
    · exact h.elim
  · split at h
    · rename_i hk
      obtain ⟨k, e, f, he⟩ := kind_func hk
      refine eqW_run h (equal_of fun d w => ?_) (fun w => by simp [binOp]) (fun w => by simp [binOp])
      simp [Op.equalIn, und_some he]
    · exact h.elim
  · split at h
    · rename_i hk
      obtain ⟨k, e, f, he⟩ := kind_func hk
      refine eqW_run h (equal_of fun d w => ?_) (fun w => by simp [binOp]) (fun w => by simp [binOp])
      simp [Op.equalIn, und_some he]
    · exact h.elim
  · split at h
    · rename_i hk
      obtain ⟨m, he⟩ := kind_iface hk.1
      obtain ⟨hv, h⟩ := h
      rcases hv with rfl | ⟨u, z, rfl⟩
      · refine eqW_run h (equal_of fun d w => ?_) (fun w => by simp [binOp]) (fun w => by simp [binOp])
        simp [Op.equalIn, und_some he, isNilI]
      · refine eqW_run h (equal_of fun d w => ?_) (fun w => by simp [binOp]) (fun w => by simp [binOp])
        simp [Op.equalIn, und_some he, isNilI]
    · exact h.elim
  · exact h.elim
end Go.Proofs.YtjbgckpalaodaaaDoorEng
