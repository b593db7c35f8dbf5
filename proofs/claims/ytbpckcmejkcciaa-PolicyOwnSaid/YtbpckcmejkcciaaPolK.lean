/-
  Policies: rows of terms of the call's own; queries in memory.
-/
import Derived.Test.YtbpckcmejkcciaaPolJ
set_option linter.unusedVariables false
set_option linter.unusedSimpArgs false
namespace Go.Proofs.Ytbpckcmejkcciaa.B
open Go Go.Proofs Go.Proofs.YtbpckcmejkcciaaEng

/-- a term's four cells -/
structure V4 where
  op : Int
  f : Int
  n : Int
  b : Option Addr
  m : Nat
  c : Nat
def V4.cells (v : V4) : List Value := [.int .i8 v.op, .int .i8 v.f, .int .u64 v.n, .slice v.b v.m v.c]
def V4.is (v : V4) (w : World) (t : Tm) : Prop := TVal w t v.op v.f v.n v.b v.m v.c
theorem V4.is.keep {v : V4} {w w' : World} {t : Tm} (h : v.is w t) (hc : Chg NoS w w') : v.is w' t := TVal.keep hc h
def flat (vs : List V4) : List Value := vs.flatMap V4.cells
theorem flat_length : ∀ vs : List V4, (flat vs).length = vs.length * 4
  | [] => rfl
  | v :: vs => by
    have := flat_length vs
    unfold flat at *
    rw [List.flatMap_cons, List.length_append, this, List.length_cons]
    simp [V4.cells]
    omega
theorem flat_append (a b : List V4) : flat (a ++ b) = flat a ++ flat b := by simp [flat]
theorem flat_get : ∀ (vs : List V4) (j i : Nat) (v : V4), vs[j]? = some v → i < 4 → (flat vs)[j * 4 + i]? = v.cells[i]?
  | [], j, i, v, h, _ => by simp at h
  | x :: vs, 0, i, v, h, hi => by
    simp only [List.getElem?_cons_zero, Option.some.injEq] at h
    subst h
    unfold flat
    rw [List.flatMap_cons, List.getElem?_append_left (by simp [V4.cells]; omega)]
    congr 1
    omega
  | x :: vs, j + 1, i, v, h, hi => by
    simp only [List.getElem?_cons_succ] at h
    have := flat_get vs j i v h hi
    unfold flat at *
    rw [List.flatMap_cons, List.getElem?_append_right (by simp [V4.cells]; omega)]
    rw [← this]
    congr 1
    simp [V4.cells]
    omega
theorem flat_one (vs : List V4) : ∀ u ∈ flat vs, u.oneCell' = true := fun u hu => by
  obtain ⟨v, _, hv⟩ := List.mem_flatMap.1 hu
  simp only [V4.cells, List.mem_cons, List.not_mem_nil, or_false] at hv
  rcases hv with rfl | rfl | rfl | rfl <;> rfl
/-- values and the terms that they are -/
inductive VS (w : World) : List V4 → List Tm → Prop
  | nil : VS w [] []
  | cons {v : V4} {t : Tm} {vs : List V4} {ts : List Tm} : v.is w t → VS w vs ts → VS w (v :: vs) (t :: ts)
theorem VS.keep {w w' : World} (hc : Chg NoS w w') : ∀ {vs : List V4} {ts : List Tm}, VS w vs ts → VS w' vs ts
  | _, _, .nil => .nil
  | _, _, .cons h r => .cons (h.keep hc) (VS.keep hc r)
theorem VS.len {w : World} : ∀ {vs : List V4} {ts : List Tm}, VS w vs ts → vs.length = ts.length
  | _, _, .nil => rfl
  | _, _, .cons h r => by simp [r.len]
theorem VS.get {w : World} : ∀ {vs : List V4} {ts : List Tm}, VS w vs ts → ∀ (j : Nat) (t : Tm), ts[j]? = some t → ∃ v, vs[j]? = some v ∧ v.is w t
  | _, _, .nil, j, t, h => by simp at h
  | _, _, .cons h r, 0, t, ht => by
    simp only [List.getElem?_cons_zero, Option.some.injEq] at ht
    subst ht
    exact ⟨_, rfl, h⟩
  | _, _, .cons h r, j + 1, t, ht => by
    obtain ⟨v, h1, h2⟩ := r.get j t (by simpa using ht)
    exact ⟨v, by simpa using h1, h2⟩
theorem VS.append {w : World} {vs us : List V4} {ts ss : List Tm} (h : VS w vs ts) (k : VS w us ss) : VS w (vs ++ us) (ts ++ ss) := by
  induction h with
  | nil => exact k
  | cons h r ih => exact .cons h ih
/-- A slice whose cells are these, and the terms that it holds. -/
theorem terms_of_reads {w : World} {a : Option Addr} {vs : List V4} {ts : List Tm} (hr : Reads w a (flat vs)) (h : VS w vs ts) : TmRow w ts a := fun j t hj => by
  obtain ⟨v, hv, hi⟩ := h.get j t hj
  have g : ∀ i u, v.cells[i]? = some u → i < 4 → ∃ A, a = some A ∧ w.cell? (addK A (j * 4 + i)) = some u := fun i u hu hi => hr _ _ (by rw [flat_get vs j i v hv hi]; exact hu)
  obtain ⟨A, rfl, g0⟩ := g 0 _ rfl (by omega)
  obtain ⟨A1, e1, g1⟩ := g 1 _ rfl (by omega)
  obtain ⟨A2, e2, g2⟩ := g 2 _ rfl (by omega)
  obtain ⟨A3, e3, g3⟩ := g 3 _ rfl (by omega)
  cases e1
  cases e2
  cases e3
  exact ⟨A, rfl, v.op, v.f, v.n, v.b, v.m, v.c, by rw [addK_addK]; exact g0, by rw [addK_addK]; exact g1, by rw [addK_addK]; exact g2, by rw [addK_addK]; exact g3, hi⟩
theorem reads_of_terms {w : World} {a : Option Addr} : ∀ {ts : List Tm} (_ : TmRow w ts a), ∃ vs, Reads w a (flat vs) ∧ VS w vs ts := by
  intro ts
  have key : ∀ (n : Nat), n ≤ ts.length → TmRow w ts a → ∃ vs, vs.length = n ∧ Reads w a (flat vs) ∧ VS w vs (ts.take n) := by
    intro n
    induction n with
    | zero => exact fun _ _ => ⟨[], rfl, (fun j u hu => by simp [flat] at hu), by simpa using VS.nil⟩
    | succ n ih =>
      intro hn h
      obtain ⟨vs, hl, hr, hv⟩ := ih (by omega) h
      have hlt : n < ts.length := by omega
      obtain ⟨A, rfl, op, f, m, b, k, c, h0, h1, h2, h3, h4⟩ := h n _ (List.getElem?_eq_getElem hlt)
      refine ⟨vs ++ [⟨op, f, m, b, k, c⟩], by simp [hl], fun j u hu => ?_, ?_⟩
      · rw [flat_append] at hu
        rcases Nat.lt_or_ge j (flat vs).length with hj | hj
        · rw [List.getElem?_append_left hj] at hu
          exact hr j u hu
        · rw [List.getElem?_append_right hj] at hu
          rw [flat_length, hl] at hu hj
          refine ⟨A, rfl, ?_⟩
          obtain ⟨i, rfl⟩ : ∃ i, j = n * 4 + i := ⟨j - n * 4, by omega⟩
          rw [show n * 4 + i - n * 4 = i from by omega] at hu
          simp only [flat, List.flatMap_cons, List.flatMap_nil, List.append_nil, V4.cells] at hu
          rw [← addK_addK]
          match i, hu with
          | 0, hu => simp at hu; subst hu; exact h0
          | 1, hu => simp at hu; subst hu; exact h1
          | 2, hu => simp at hu; subst hu; exact h2
          | 3, hu => simp at hu; subst hu; exact h3
          | i + 4, hu => simp at hu
      · rw [List.take_add_one, List.getElem?_eq_getElem hlt]
        exact hv.append (.cons h4 .nil)
  intro h
  obtain ⟨vs, _, h1, h2⟩ := key ts.length (Nat.le_refl _) h
  exact ⟨vs, h1, by simpa using h2⟩
theorem info26 : (Try.prog.info? 26).map (fun i => (i.zero, i.size, i.bytes)) = some (some (.agg #[.int .i8 0, .int .i8 0, .int .u64 0, .slice none 0 0]), 4, 40) := by kernel_rfl
/-- append to a row of terms of the call's own -/
theorem terms_append {w : World} {base n m c : Nat} {v : Value} {a : Option Addr} {vs us : List V4} {K : Value → World → Prop} {E : PanW}
    (ho : w.ownsRow base 26 4 v n (flat vs)) (hm : us.length = m) (hr : Reads w a (flat us)) (h0 : a = none → m = 0) (hb : n + m ≤ 1099511627776) (hbase : base ≤ w.heap.size)
    (h : ∀ a' c' w', w'.ownsRow base 26 4 (.slice a' (n + m) c') (n + m) (flat (vs ++ us)) → Chg (fun k => v.ownBlock = some k) w w' → (∀ k, (Value.slice a' (n + m) c').ownBlock = some k → v.ownBlock = some k ∨ w.heap.size ≤ k) → K (.slice a' (n + m) c') w') :
    runV Try.prog (Builtin.append_ #[24, 24] 24 #[v, .slice a m c]) w K E := by
  obtain ⟨i, hi, hz, hs, hby⟩ := info_open' info26
  refine append_own (base := base) (n := n) (m := m) Try.underlying24 hi hz hs rfl ho (src_slice Try.underlying24 (by rw [flat_length, hm]) hr h0 (flat_one us)) (by rw [hby]; omega) (by omega) hbase ?_
  intro v' w' ho' hc hb1 hb2
  obtain ⟨a', c', rfl, _, _⟩ := own_form ho'
  refine h a' c' w' (by rw [flat_append]; exact ho') hc fun k hk => ?_
  rcases hb1 with e | e
  · exact .inl (e ▸ hk)
  · rw [e] at hk; exact .inr (by have := Option.some.inj hk; omega)

/-! ### queries -/
instance ba_lawful : LawfulBEq ByteArray where
  eq_of_beq {a b} h := by rw [ba_beq] at h; exact of_decide_eq_true h
  rfl {a} := by rw [ba_beq]; simp
abbrev Qu := ByteArray × Tm
def QsAt (w : World) (qs : List Qu) (a : Option Addr) : Prop := ∀ (j : Nat) (q : Qu), qs[j]? = some q → ∃ A, a = some A ∧ w.cell? (addK (addK A (j * 5)) 0) = some (.string q.1) ∧ TmP w q.2 (addK (addK A (j * 5)) 1)
theorem QsAt.keep {w w' : World} {qs : List Qu} {a : Option Addr} (h : QsAt w qs a) (hc : Chg NoS w w') : QsAt w' qs a := fun j q hq => by
  obtain ⟨A, h1, h2, h3⟩ := h j q hq
  exact ⟨A, h1, cell_keep h2 hc, h3.keep hc⟩
def preds (qs : List Qu) : List Tm := qs.map (·.2)
def names (qs : List Qu) : List ByteArray := qs.map (·.1)
/-- whether the first j queries may stand -/
def qAll (qs : List Qu) : Nat → Bool
  | 0 => true
  | j + 1 => qAll qs j && (match qs[j]? with
    | some q => nameS q.1 && decide (q.1 ∉ names (qs.take j)) && rightS q.2 true
    | none => true)
theorem qAll_get {qs : List Qu} {j : Nat} (hj : j < qs.length) : qAll qs (j + 1) = (qAll qs j && (nameS qs[j].1 && decide (qs[j].1 ∉ names (qs.take j)) && rightS qs[j].2 true)) := by
  simp only [qAll, List.getElem?_eq_getElem hj]
theorem qAll_false {qs : List Qu} {j : Nat} (h : qAll qs (j + 1) = false) : ∀ n, j < n → qAll qs n = false
  | 0, hn => by omega
  | n + 1, hn => by
    rcases Nat.lt_or_ge j n with h1 | h1
    · simp only [qAll]; rw [qAll_false h n h1]; rfl
    · rw [show n = j from by omega]; exact h
def checkS (main : Tm) (qs : List Qu) : Int := if 32 < qs.length then 200 else if bigS (main :: preds qs) = true then 200 else if rightS main false = true ∧ qAll qs qs.length = true then 0 else 170
def predS (t : Tm) : Int := if bigS [t] = true then 200 else if rightS t true = true then 0 else 170
end Go.Proofs.Ytbpckcmejkcciaa.B
