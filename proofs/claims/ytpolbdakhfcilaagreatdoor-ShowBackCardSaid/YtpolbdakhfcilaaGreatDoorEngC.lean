/-
  A clean form of the walk, third part: an operation that 'pureW' tells makes its value in every world.
-/
import Derived.Test.YtpolbdakhfcilaaGreatDoorEngB
namespace Go.Proofs.YtpolbdakhfcilaaGreatDoorEng
open Go
set_option linter.unusedSimpArgs false
set_option linter.unusedVariables false
variable {P : Program}

theorem Runs.next {s : Sem Value} {v : Value} (h : Runs P s v) (w : World) : (do pure (Next.value (← s)) : Sem Next).run P w = .ok (.value v) w := by
  simp [h w]

theorem info_of {t : TypeId} (h : hasInfo P t = true) : ∃ i, P.info? t = some i ∧ sizeOfT P t = i.size := by
  unfold hasInfo at h
  obtain ⟨i, hi⟩ := Option.isSome_iff_exists.1 h
  exact ⟨i, hi, by simp [sizeOfT, hi]⟩
theorem size_run {t : TypeId} (h : hasInfo P t = true) (w : World) : (sizeOf t).run P w = .ok (sizeOfT P t) w := by
  obtain ⟨i, hi, hs⟩ := info_of h
  simp [sizeOf, info_some hi, hs]

theorem fieldAddrW_run {t : TypeId} {x : Value} {f : Nat} {K : Value → Prop} (h : fieldAddrW P t x f K) : ∃ v, K v ∧ Runs P (Instr.fieldAt t x f) v := by
  unfold fieldAddrW at h
  split at h
  · rename_i fd hf
    split at h
    · rename_i hi
      obtain ⟨A, rfl, hK⟩ := wPtr_elim h
      refine ⟨_, hK, fun w => ?_⟩
      unfold fieldOfT at hf
      split at hf
      · rename_i fs hu
        simp [Instr.fieldAt, und_some hu, hf, Instr.sureAddr, fieldPlace, size_run hi.1, hi.2, addK]
      · cases hf
    · exact h.elim
  · exact h.elim

theorem indexAddrW_run {t : TypeId} {x ix : Value} {K : Value → Prop} (h : indexAddrW P t x ix K) : ∃ v, K v ∧ Runs P (Instr.indexAt t x ix) v := by
  unfold indexAddrW at h
  split at h
  · rename_i hk
    split at h
    · rename_i hi
      obtain ⟨a, n, c, rfl, h⟩ := wSlice_elim h
      obtain ⟨k, i, rfl, h0, h1, h⟩ := wInt_elim h
      obtain ⟨A, rfl, hK⟩ := wSome_elim h
      exact ⟨_, hK, fun w => by simp [Instr.indexAt, asIntOf, und_some (kind_slice hk), size_run hi, h0, h1, addK]⟩
    · exact h.elim
  · rename_i hk
    split at h
    · rename_i hi
      obtain ⟨A, rfl, h⟩ := wPtr_elim h
      obtain ⟨k, i, rfl, h0, h1, hK⟩ := wInt_elim h
      exact ⟨_, hK, fun w => by simp [Instr.indexAt, asIntOf, und_some (kind_arr hk), size_run hi, h0, h1, addK, Instr.sureAddr]⟩
    · exact h.elim
  · exact h.elim

theorem isAgg_run {t : TypeId} {d : TypeDesc} (h : P.underlying t = some d) (w : World) : (isAgg t).run P w = .ok (isAggT P t) w := by
  unfold isAgg isAggT
  rw [Sem.run_bind, und_some h]
  simp only [Result.andThen, h]
  cases d <;> rfl

theorem kind_some {t : TypeId} (h : kindOf P t ≠ 0) : ∃ d, P.underlying t = some d := by
  unfold kindOf at h
  cases e : P.underlying t with
  | none => rw [e] at h; exact absurd rfl h
  | some d => exact ⟨d, rfl⟩
theorem agg_some {t : TypeId} (h : isAggT P t = true) : ∃ d, P.underlying t = some d := by
  unfold isAggT at h
  cases e : P.underlying t with
  | none => rw [e] at h; cases h
  | some d => exact ⟨d, rfl⟩

theorem fieldW_run {t : TypeId} {x : Value} {f : Nat} {K : Value → Prop} (h : fieldW P t x f K) : ∃ v, K v ∧ Runs P (Instr.field t x f) v := by
  unfold fieldW at h
  split at h
  · rename_i fd hf
    obtain ⟨cs, rfl, h1⟩ := wAgg_elim h
    clear h
    unfold fieldOfT at hf
    split at hf
    · rename_i fs hu
      split at h1
      · rename_i ha
        split at h1
        · rename_i hi
          obtain ⟨d, hd⟩ := agg_some ha
          refine ⟨_, h1, fun w => ?_⟩
          simp [Instr.field, und_some hu, hf, asAgg, part, isAgg_run hd, ha, size_run hi]
          congr 1
          apply Array.ext'
          simp [List.extract_eq_take_drop]
        · exact h1.elim
      · rename_i ha
        have ha' : isAggT P fd.type = false := by simpa using ha
        split at h1
        · exact h1.elim
        · rename_i hk
          obtain ⟨d, hd⟩ := kind_some hk
          split at h1
          · rename_i v hv
            refine ⟨_, h1, fun w => ?_⟩
            simp [Instr.field, und_some hu, hf, asAgg, part, isAgg_run hd, ha']
            rw [← Array.getElem?_toList, hv]
            simp
          · exact h1.elim
    · cases hf
  · exact h.elim

theorem headW_elim {z v : Value} {K : Value → Prop} (h : headW z v K) : K v := by
  unfold headW at h
  split at h
  all_goals first
    | (obtain ⟨x, rfl, h⟩ := h; exact h)
    | (obtain ⟨x, y, q, rfl, h⟩ := h; exact h)
    | exact h
theorem indexW_run {t : TypeId} {x ix : Value} {K : Value → Prop} (h : indexW P t x ix K) : ∃ v, K v ∧ Runs P (Instr.index t x ix) v := by
  unfold indexW at h
  split at h
  · rename_i hk
    obtain ⟨s, rfl, h⟩ := wStr_elim h
    obtain ⟨k, i, rfl, h0, h1, hK⟩ := wInt_elim h
    refine ⟨_, hK, fun w => ?_⟩
    have hlt : i.toNat < s.size := by omega
    have e : s[i.toNat]? = some s[i.toNat] := by simp [hlt]
    have e2 : s.data.toList[i.toNat]? = some s[i.toNat] := by
      have : i.toNat < s.data.toList.length := by simpa using hlt
      rw [List.getElem?_eq_getElem this]; rfl
    simp [Instr.index, asIntOf, und_some (kind_str hk), h0, e, byteAt, e2]
  · rename_i hk
    split at h
    · rename_i hi
      obtain ⟨h1, h2, h3, h4⟩ := hi
      obtain ⟨cs, rfl, h⟩ := wAgg_elim h
      obtain ⟨k, i, rfl, h0, h5, h6, hK⟩ := wInt_elim h
      obtain ⟨d, hd⟩ := kind_some h3
      refine ⟨_, headW_elim hK, fun w => ?_⟩
      have hlt : i.toNat < cs.size := by simp at h6; omega
      simp [Instr.index, asIntOf, und_some (kind_arr hk), h0, h5, size_run h1, h4, part, isAgg_run hd, h2, hlt]
    · exact h.elim
  · exact h.elim

theorem unW_run {op : UnOp} {x : Value} {K : Value → Prop} (h : unW op x K) : ∃ v, K v ∧ Runs P (Op.unary op x) v := by
  unfold unW at h
  split at h
  · exact ⟨_, h, fun w => by simp [Op.unary]⟩
  · exact ⟨_, h, fun w => by simp [Op.unary, Op.intArith]⟩
  · exact ⟨_, h, fun w => by simp [Op.unary, Op.intBits]⟩
  · exact h.elim

theorem convW_run {s t : TypeId} {x : Value} {K : Value → Prop} (h : convW P s t x K) : ∃ v, K v ∧ Runs P (convert s t x) v := by
  unfold convW at h
  split at h
  · rename_i d k _ n hs ht
    refine ⟨_, h, fun w => ?_⟩
    simp only [convert, Sem.run_bind, und_some hs, und_some ht, Result.andThen]
    cases d <;> simp [Conv.intToInt]
  · rename_i d s' hs ht
    refine ⟨_, h, fun w => ?_⟩
    simp only [convert, Sem.run_bind, und_some hs, und_some ht, Result.andThen]
    cases d <;> simp
  · exact h.elim


theorem boundW_run {v : Value} {y : Nat} {K : Nat → Prop} (h : boundW v y K) : ∃ n, K n ∧ ∀ c w, (Instr.sliceBound v y c).run P w = .ok n w := by
  unfold boundW at h
  obtain ⟨k, i, rfl, h0, h1, hK⟩ := wInt_elim h
  exact ⟨_, hK, fun c w => by simp [Instr.sliceBound, asIntOf, h0, h1]⟩

theorem optW_run {v : Option Value} {y d : Nat} {K : Nat → Prop} (h : optW v y d K) : ∃ n, K n ∧ ∀ (c : BoundsCode) w, (match v with
    | some v => Instr.sliceBound v y c
    | none => (pure d : Sem Nat)).run P w = .ok n w := by
  cases v with
  | none => exact ⟨d, h, fun c w => by simp⟩
  | some v => exact boundW_run (P := P) h

theorem boundsW_run {len cap : Nat} {lo hi mx : Option Value} {K : Nat → Nat → Nat → Prop} (h : boundsW len cap lo hi mx K) :
    ∃ l u m, K l u m ∧ ∀ b w, (Instr.sliceBounds b len cap lo hi mx).run P w = .ok (l, u, m) w := by
  unfold boundsW at h
  split at h
  · rename_i m
    obtain ⟨m', h1, hm⟩ := boundW_run (P := P) h
    clear h
    split at h1
    · rename_i u
      obtain ⟨u', h2, hu⟩ := boundW_run (P := P) h1
      obtain ⟨l', h3, hl⟩ := optW_run (P := P) h2
      refine ⟨l', u', m', h3, fun b w => ?_⟩
      simp only [Instr.sliceBounds, Sem.run_bind, hm, hu, Result.andThen]
      cases lo <;> simp at hl ⊢
      · first | exact hl _ _ | (subst hl; simp) | simp [hl]
      · simp [hl]
    · exact h1.elim
  · cases hi with
    | none =>
      obtain ⟨l', h3, hl⟩ := optW_run (P := P) (show optW lo len 0 fun l => K l len cap from h)
      refine ⟨l', len, cap, h3, fun b w => ?_⟩
      simp only [Instr.sliceBounds, Sem.run_bind, Result.andThen]
      cases lo <;> simp at hl ⊢
      · first | exact hl _ _ | (subst hl; simp) | simp [hl]
      · simp [hl]
    | some u =>
      obtain ⟨u', h2, hu⟩ := boundW_run (P := P) (show boundW u cap (fun h => optW lo h 0 fun l => K l h cap) from h)
      obtain ⟨l', h3, hl⟩ := optW_run (P := P) h2
      refine ⟨l', u', cap, h3, fun b w => ?_⟩
      simp only [Instr.sliceBounds, Sem.run_bind, hu, Result.andThen]
      cases lo <;> simp [hu] at hl ⊢
      · first | exact hl _ _ | (subst hl; simp) | simp [hl]
      · simp [hl]

theorem sliceW_run {t : TypeId} {x : Value} {lo hi mx : Option Value} {K : Value → Prop} (h : sliceW P t x lo hi mx K) : ∃ v, K v ∧ Runs P (Instr.sliceAt t x lo hi mx) v := by
  unfold sliceW at h
  split at h
  · rename_i hk
    split at h
    · exact h.elim
    · rename_i hm
      obtain ⟨s, rfl, h1⟩ := wStr_elim h
      obtain ⟨l, u, m, hK, hb⟩ := boundsW_run (P := P) h1
      refine ⟨_, hK, fun w => ?_⟩
      cases mx with
      | some _ => simp at hm
      | none => simp [Instr.sliceAt, Instr.slice, und_some (kind_str hk), hb]
  · rename_i hk
    split at h
    · rename_i hi'
      obtain ⟨a, len, cap, rfl, h1⟩ := wSlice_elim h
      obtain ⟨l, u, m, hK, hb⟩ := boundsW_run (P := P) h1
      refine ⟨_, hK, fun w => ?_⟩
      simp [Instr.sliceAt, Instr.slice, und_some (kind_slice hk), hb, size_run hi', addK]
    · exact h.elim
  · rename_i hk
    split at h
    · rename_i hi'
      obtain ⟨a, rfl, h1⟩ := wPtr_elim h
      obtain ⟨l, u, m, hK, hb⟩ := boundsW_run (P := P) h1
      refine ⟨_, hK, fun w => ?_⟩
      simp [Instr.sliceAt, und_some (kind_arr hk), hb, size_run hi', addK, Instr.sureAddr]
    · exact h.elim
  · exact h.elim

theorem lenW_run {t : TypeId} {x : Value} {K : Value → Prop} (h : lenW P t x K) : ∃ v, K v ∧ Runs P (Builtin.len_ #[t] 0 #[x]) v := by
  unfold lenW at h
  split at h
  · rename_i hk
    obtain ⟨s, rfl, h⟩ := wStr_elim h
    exact ⟨_, h, fun w => by simp [Builtin.len_, und_some (kind_str hk), goInt]⟩
  · rename_i hk
    obtain ⟨a, n, c, rfl, h⟩ := wSlice_elim h
    exact ⟨_, h, fun w => by simp [Builtin.len_, und_some (kind_slice hk), goInt]⟩
  · rename_i hk
    exact ⟨_, h, fun w => by simp [Builtin.len_, und_some (kind_arr hk), goInt]⟩
  · exact h.elim
theorem capW_run {t : TypeId} {x : Value} {K : Value → Prop} (h : capW P t x K) : ∃ v, K v ∧ Runs P (Builtin.cap_ #[t] 0 #[x]) v := by
  unfold capW at h
  split at h
  · rename_i hk
    obtain ⟨a, n, c, rfl, h⟩ := wSlice_elim h
    exact ⟨_, h, fun w => by simp [Builtin.cap_, und_some (kind_slice hk), goInt]⟩
  · exact h.elim

theorem fillW_run {t : TypeId} {parts : Array (Nat × Value)} {K : Value → Prop} (h : fillW P t parts.toList K) : ∃ v, K v ∧ Runs P (Instr.build t parts) v := by
  unfold fillW at h
  split at h
  · rename_i cs hc
    exact ⟨_, h, fun w => run_build w t parts cs hc⟩
  · exact h.elim

theorem flat_guard {op : BinOp} {t : TypeId} {xs ys : List Value} {K : Value → Prop} (h : eqAggW P op t xs ys K) : P.eqGuardType P.depth t = false := by
  unfold eqAggW flatK at h
  by_cases hg : P.eqGuardType P.depth t = true
  · rw [if_pos hg] at h; exact h.elim
  · simpa using hg
theorem binW_guard {op : BinOp} {t : TypeId} {x y : Operand} {a b : Value} {K : Value → Prop} (h : binW P op t (isC x || isC y) a b K) (w : World) : (eqGuard op t x y a b).run P w = .ok () w := by
  unfold eqGuard
  by_cases ho : op = .eql ∨ op = .neq
  · have e : (!(match op with | .eql | .neq => true | _ => false)) = false := by rcases ho with rfl | rfl <;> rfl
    unfold binW at h
    split at h
    · unfold eqIW at h
      split at h
      · rename_i hc
        unfold nilIW at h
        split at h
        · obtain ⟨hv, h1⟩ := h
          rcases hv with hv | ⟨u, z, hv⟩
          · subst hv
            cases x <;> cases y <;> simp [isC] at hc <;> (rcases ho with rfl | rfl <;> simp)
          · subst hv
            rcases ho with rfl | rfl <;> simp
        · exact h.elim
      · obtain ⟨b', hb, h⟩ := h
        unfold ifEq at hb
        split at hb
        · rcases ho with rfl | rfl <;> simp
        · rcases ho with rfl | rfl <;> simp
        · rcases ho with rfl | rfl <;> simp
        · cases hb
    · unfold binW0 at h
      split at h
      all_goals first
        | (rcases ho with rfl | rfl <;> simp; done)
        | exact h.elim
        | (have hg := flat_guard h; rcases ho with rfl | rfl <;> simp [hg]; done)
        | skip
  · cases op <;> simp at ho ⊢

theorem nilW_run {v : Value} {K : Value → Prop} (h : nilW v K) : K v ∧ ∀ w, (match v with
    | .pointer none | .nilIface | .nilFunc => runtimePanic .nilDeref
    | .func (.method name) first captured =>
      match (first[0]? : Option Value) with
      | some .nilIface => runtimePanic .nilDeref
      | some (.iface t w) => do
        if (← nilAhead ((← program).types.size + Made.depth) t w name) != some false then
          unsupported (.noEntry "op/nilCheck.the method's receiver behind this interface value is a nil pointer, or cannot be seen to be none, and the arguments act or may panic (ledger 612)")
        pure (.value (.func (.method name) first captured))
      | _ => pure (.value (.func (.method name) first captured))
    | x => pure (.value x) : Sem Next).run P w = .ok (.value v) w := by
  unfold nilW at h
  split at h
  · obtain ⟨a, rfl, h1⟩ := wSome_elim h
    exact ⟨h1, fun w => by simp⟩
  · exact ⟨h, fun w => by simp⟩
  · exact ⟨h, fun w => by simp⟩
  · exact h.elim

theorem one_of {α : Type} {l : Array α} (h : l.size = 1) : ∃ x, l = #[x] := by
  obtain ⟨l⟩ := l
  match l, h with
  | [x], _ => exact ⟨x, rfl⟩

theorem pureW_run {r : Operand → Value} {o : Oper} {K : Value → Prop} (hp : isPure P o.op = true) (h : pureW P r o.op K) : ∃ v, K v ∧ ∀ w, (execOp r o).run P w = .ok (.value v) w := by
  obtain ⟨dst, op, ty, pos, after, guard⟩ := o
  have hv : ∀ {s : Sem Value} (hs : ∃ v, K v ∧ Runs P s v) , ∃ v, K v ∧ ∀ w, (do pure (Next.value (← s)) : Sem Next).run P w = .ok (.value v) w := fun ⟨v, hk, hr⟩ => ⟨v, hk, hr.next⟩
  cases op <;> simp only [isPure, Bool.false_eq_true] at hp <;> simp only [pureW] at h
  case move x => exact ⟨_, h, fun w => by simp [execOp]⟩
  case assign x => exact ⟨_, h, fun w => by simp [execOp]⟩
  case pick c a b =>
    obtain ⟨t, ht, h1⟩ := wBool_elim h
    exact ⟨_, h1, fun w => by simp [execOp, ht, asBool]⟩
  case nilCheck x => exact ⟨_, (nilW_run (P := P) h).1, (nilW_run (P := P) h).2⟩
  case fieldAddr t x f => exact hv (fieldAddrW_run h)
  case indexAddr t x i => exact hv (indexAddrW_run h)
  case field t x f => exact hv (fieldW_run h)
  case index t x i => exact hv (indexW_run h)
  case unOp op t x => exact hv (unW_run h)
  case makeFunc fn a b => exact ⟨_, h, fun w => by simp [execOp, Instr.makeFunc]⟩
  case slice t x lo hi mx => exact hv (sliceW_run h)
  case extract t i =>
    split at h
    · rename_i vs hvs
      split at h
      · rename_i v hg
        exact ⟨_, h, fun w => by simp at hg; simp [execOp, hvs, Instr.extract, hg]⟩
      · exact h.elim
    · exact h.elim
  case makeInterface t x =>
    refine ⟨_, h, fun w => ?_⟩
    simp only [Bool.and_eq_true, bne_iff_ne, ne_eq] at hp
    obtain ⟨d, hd⟩ := kind_some hp.2
    have hn : ∀ m, d ≠ .interface m := fun m e => hp.1 (by simp [kindOf, hd, e])
    simp only [execOp, Instr.makeInterface, Sem.run_bind, und_some hd, Result.andThen]
    cases d <;> simp at hn ⊢
  case build t parts =>
    refine hv (fillW_run (parts := parts.map fun p => (p.1, r p.2)) ?_)
    simpa using h
  case convert s t x => exact hv (convW_run h)
  case binOp op t x y yt =>
    obtain ⟨v, hk, hr⟩ := binW_run (P := P) h
    refine ⟨v, hk, fun w => ?_⟩
    simp [execOp, binW_guard h w, hr w]
  case call c =>
    obtain ⟨callee, args, ats⟩ := c
    cases callee with
    | value _ => simp [isPure] at hp
    | invoke _ _ => simp [isPure] at hp
    | builtin b =>
      cases b <;> simp [isPure] at hp
      case len =>
        simp only [pureW] at h
        obtain ⟨x, rfl⟩ := one_of hp.1.1
        obtain ⟨u, hu⟩ := one_of hp.1.2
        have ht : ats = #[ats.getD 0 0] := by rw [hu]; rfl
        obtain ⟨v, hk, hr⟩ := lenW_run (P := P) h
        refine ⟨v, hk, fun w => ?_⟩
        have hr' := hr w
        rw [← ht] at hr'
        have hz : ∀ (ty : TypeId) (as : Array Value), Builtin.len_ ats ty as = Builtin.len_ ats 0 as := fun _ _ => rfl
        simp [execOp, resolve, invoke, builtin, hz ty, hr']
      case cap =>
        simp only [pureW] at h
        obtain ⟨x, rfl⟩ := one_of hp.1.1
        obtain ⟨u, hu⟩ := one_of hp.1.2
        have ht : ats = #[ats.getD 0 0] := by rw [hu]; rfl
        obtain ⟨v, hk, hr⟩ := capW_run (P := P) h
        refine ⟨v, hk, fun w => ?_⟩
        have hr' := hr w
        rw [← ht] at hr'
        have hz : ∀ (ty : TypeId) (as : Array Value), Builtin.cap_ ats ty as = Builtin.cap_ ats 0 as := fun _ _ => rfl
        simp [execOp, resolve, invoke, builtin, hz ty, hr']
end Go.Proofs.YtpolbdakhfcilaaGreatDoorEng
