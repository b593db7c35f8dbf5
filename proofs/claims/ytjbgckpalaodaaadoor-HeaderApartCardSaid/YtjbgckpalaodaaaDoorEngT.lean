/-
  What came in, cell by cell.
-/
import Derived.Test.YtjbgckpalaodaaaDoorEngO
namespace Go.Proofs.YtjbgckpalaodaaaDoorEng
open Go
set_option linter.unusedSimpArgs false
set_option linter.unusedVariables false
variable {P : Program} {B : Nat} {w : World}

theorem wf_i8 {n : Int} (h : (Lit.int .i8 n).wf = true) : -128 ≤ n ∧ n ≤ 127 := by simpa [Lit.wf, IntKind.min, IntKind.max, IntKind.signed, IntKind.bits] using h
theorem wf_i16 {n : Int} (h : (Lit.int .i16 n).wf = true) : -32768 ≤ n ∧ n ≤ 32767 := by simpa [Lit.wf, IntKind.min, IntKind.max, IntKind.signed, IntKind.bits] using h
theorem wf_i32 {n : Int} (h : (Lit.int .i32 n).wf = true) : -2147483648 ≤ n ∧ n ≤ 2147483647 := by simpa [Lit.wf, IntKind.min, IntKind.max, IntKind.signed, IntKind.bits] using h
theorem wf_i64 {n : Int} (h : (Lit.int .i64 n).wf = true) : -9223372036854775808 ≤ n ∧ n ≤ 9223372036854775807 := by simpa [Lit.wf, IntKind.min, IntKind.max, IntKind.signed, IntKind.bits] using h
theorem wf_u8 {n : Int} (h : (Lit.int .u8 n).wf = true) : 0 ≤ n ∧ n ≤ 255 := by simpa [Lit.wf, IntKind.min, IntKind.max, IntKind.signed, IntKind.bits] using h
theorem wf_u16 {n : Int} (h : (Lit.int .u16 n).wf = true) : 0 ≤ n ∧ n ≤ 65535 := by simpa [Lit.wf, IntKind.min, IntKind.max, IntKind.signed, IntKind.bits] using h
theorem wf_u32 {n : Int} (h : (Lit.int .u32 n).wf = true) : 0 ≤ n ∧ n ≤ 4294967295 := by simpa [Lit.wf, IntKind.min, IntKind.max, IntKind.signed, IntKind.bits] using h
theorem wf_u64 {n : Int} (h : (Lit.int .u64 n).wf = true) : 0 ≤ n ∧ n ≤ 18446744073709551615 := by simpa [Lit.wf, IntKind.min, IntKind.max, IntKind.signed, IntKind.bits] using h
theorem is_len {n c : Nat} {t : TypeId} {cs : List Value} (h : Is B P w (n + 1) t cs) (ht : (match P.underlying t with | some (.struct _) | some (.array ..) => true | _ => false) = true) (hc : P.cellsOf t = c) : cs.length = c := by
  unfold Is at h
  split at h
  all_goals first
    | (rename_i e; rw [e] at ht; cases ht; done)
    | (rw [← hc]; exact h.1)
    | (rename_i e1 e2 e3 e4 e5 e6 e7; exfalso; revert ht; split <;> simp_all)
theorem is_top {n c : Nat} {t : TypeId} {cs : List Value} (h : Is B P w n t cs) (hl : cs.length = c) : Is B P w n t ((cs.drop 0).take c) := by
  rw [List.drop_zero, List.take_of_length_le (by omega)]
  exact h
theorem cut_cut {cs : List Value} {o c oo c2 : Nat} (h : oo + c2 ≤ c) : (((cs.drop o).take c).drop oo).take c2 = (cs.drop (o + oo)).take c2 := by
  rw [List.drop_take, List.take_take, List.drop_drop, Nat.min_eq_left (by omega)]
theorem is_field {n i o c oo c2 : Nat} {t T : TypeId} {fs : Array Field} {cs : List Value} (h : Is B P w (n + 1) t ((cs.drop o).take c)) (ht : P.underlying t = some (.struct fs)) (hi : (fs[i]?).map (fun f => (f.type, f.offset)) = some (T, oo)) (hc : P.cellsOf T = c2) (hle : oo + c2 ≤ c) : Is B P w n T ((cs.drop (o + oo)).take c2) := by
  obtain ⟨f, hf, e⟩ := Option.map_eq_some_iff.1 hi
  have e1 : f.type = T := congrArg Prod.fst e
  have e2 : f.offset = oo := congrArg Prod.snd e
  have := Is.field h ht hf e1 e2 hc
  rwa [cut_cut hle] at this
theorem is_elem {n i o c c2 m : Nat} {t e : TypeId} {cs : List Value} (h : Is B P w (n + 1) t ((cs.drop o).take c)) (ht : P.underlying t = some (.array m e)) (hi : i < m) (hc : P.cellsOf e = c2) (hle : i * c2 + c2 ≤ c) : Is B P w n e ((cs.drop (o + i * c2)).take c2) := by
  have := (Is.array ht h).2 i hi
  rw [hc] at this
  rwa [cut_cut hle] at this
theorem one_get {cs : List Value} {o : Nat} {v : Value} (h : (cs.drop o).take 1 = [v]) : cs[o]? = some v := by
  have h1 : ((cs.drop o).take 1)[0]? = some v := by rw [h]; rfl
  rw [List.getElem?_take_of_lt (by omega), List.getElem?_drop] at h1
  exact h1
theorem is_int {n o : Nat} {t : TypeId} {k : IntKind} {cs : List Value} (h : Is B P w (n + 1) t ((cs.drop o).take 1)) (ht : P.underlying t = some (.int k)) : ∃ i, cs[o]? = some (.int k i) ∧ (Lit.int k i).wf = true := by
  obtain ⟨i, e, hw⟩ := Is.int ht h
  exact ⟨i, one_get e, hw⟩
theorem is_bool {n o : Nat} {t : TypeId} {cs : List Value} (h : Is B P w (n + 1) t ((cs.drop o).take 1)) (ht : P.underlying t = some .bool) : ∃ b, cs[o]? = some (.bool b) := by
  obtain ⟨b, e⟩ := Is.bool ht h
  exact ⟨b, one_get e⟩
theorem is_str {n o : Nat} {t : TypeId} {cs : List Value} (h : Is B P w (n + 1) t ((cs.drop o).take 1)) (ht : P.underlying t = some .string) : ∃ s : ByteArray, cs[o]? = some (.string s) ∧ s.size ≤ B := by
  obtain ⟨s, e, hs⟩ := Is.str ht h
  exact ⟨s, one_get e, hs⟩
theorem is_slice {n o : Nat} {t e : TypeId} {cs : List Value} (h : Is B P w (n + 1) t ((cs.drop o).take 1)) (ht : P.underlying t = some (.slice e)) : ∃ a m c, cs[o]? = some (.slice a m c) ∧ Is B P w (n + 1) t [.slice a m c] := by
  obtain ⟨a, m, c, e1, _⟩ := Is.slice ht h
  exact ⟨a, m, c, one_get e1, by rw [← e1]; exact h⟩
theorem list_of {cs vs : List Value} {n : Nat} (hl : cs.length = n) (h : ∀ i, i < vs.length → cs[i]? = vs[i]?) (hv : vs.length = n := by rfl) : cs = vs := by
  apply List.ext_getElem?
  intro i
  rcases Nat.lt_or_ge i vs.length with h1 | h1
  · exact h i h1
  · rw [List.getElem?_eq_none (by omega), List.getElem?_eq_none h1]
/-- what a slice that came in holds, element by element -/
theorem is_rows {n c : Nat} {t e : TypeId} {cs : List Value} (ht : P.underlying t = some (.slice e)) (hc : P.cellsOf e = c) (hpos : 0 < c) (h : Is B P w (n + 1) t cs) :
    ∃ a len cap, cs = [.slice a len cap] ∧ len ≤ cap ∧ cap ≤ B ∧ (a = none → cap = 0) ∧ ∃ css : List (List Value), css.length = len ∧ (∀ (j : Nat) cs, css[j]? = some cs → Is B P w n e cs ∧ cs.length = c) ∧
      ∀ (j : Nat) cs (i : Nat) v, css[j]? = some cs → cs[i]? = some v → ∃ A, a = some A ∧ w.cell? (addK (addK A (j * c)) i) = some v := by
  obtain ⟨a, len, cap, h1, h2, h3, h4, h5⟩ := h.slice ht
  refine ⟨a, len, cap, h1, h2, h3, h4, ?_⟩
  have build : ∀ m, m ≤ cap → ∃ css : List (List Value), css.length = m ∧ (∀ (j : Nat) cs, css[j]? = some cs → Is B P w n e cs ∧ cs.length = c) ∧
      ∀ (j : Nat) cs (i : Nat) v, css[j]? = some cs → cs[i]? = some v → ∃ A, a = some A ∧ w.cell? (addK (addK A (j * c)) i) = some v := by
    intro m
    induction m with
    | zero => exact fun _ => ⟨[], rfl, (fun j cs hj => by simp at hj), fun j cs i v hj => by simp at hj⟩
    | succ m ih =>
      intro hm
      obtain ⟨css, hl, hi, hr⟩ := ih (by omega)
      cases a with
      | none => have := h4 rfl; omega
      | some A =>
        obtain ⟨es, he1, he2⟩ := h5 A rfl m (by omega)
        rw [hc] at he1
        obtain ⟨_, hlen, hcell⟩ := World.cells?_some he1
        refine ⟨css ++ [es], by simp [hl], fun j cs hj => ?_, fun j cs i v hj hv => ?_⟩
        · rcases Nat.lt_or_ge j css.length with hj' | hj'
          · rw [List.getElem?_append_left hj'] at hj
            exact hi j cs hj
          · rw [List.getElem?_append_right hj'] at hj
            have h0 : j - css.length = 0 := by
              rcases Nat.eq_zero_or_pos (j - css.length) with h0 | h0
              · exact h0
              · rw [List.getElem?_eq_none (by simp; omega)] at hj; cases hj
            rw [h0] at hj
            simp only [List.getElem?_cons_zero, Option.some.injEq] at hj
            subst hj
            exact ⟨he2, hlen⟩
        · rcases Nat.lt_or_ge j css.length with hj' | hj'
          · rw [List.getElem?_append_left hj'] at hj
            exact hr j cs i v hj hv
          · rw [List.getElem?_append_right hj'] at hj
            have h0 : j - css.length = 0 := by
              rcases Nat.eq_zero_or_pos (j - css.length) with h0 | h0
              · exact h0
              · rw [List.getElem?_eq_none (by simp; omega)] at hj; cases hj
            rw [h0] at hj
            simp only [List.getElem?_cons_zero, Option.some.injEq] at hj
            subst hj
            have hjm : j = m := by omega
            subst hjm
            have hil : i < c := by
              rw [← hlen]
              exact (List.getElem?_eq_some_iff.1 hv).1
            have h6 := hcell i hil
            rw [hv] at h6
            exact ⟨A, rfl, h6⟩
  obtain ⟨css, hl, hi, hr⟩ := build len h2
  exact ⟨css, hl, hi, hr⟩
/-- strings that came in -/
theorem is_strs {n : Nat} {t e : TypeId} {cs : List Value} (ht : P.underlying t = some (.slice e)) (he : P.underlying e = some .string) (hc : P.cellsOf e = 1) (h : Is B P w (n + 2) t cs) :
    ∃ a len cap, cs = [.slice a len cap] ∧ len ≤ cap ∧ cap ≤ B ∧ (a = none → cap = 0) ∧ ∃ l : List ByteArray, l.length = len ∧ (∀ s ∈ l, s.size ≤ B) ∧ Reads w a (l.map .string) := by
  obtain ⟨a, len, cap, h1, h2, h3, h4, css, hl, hi, hr⟩ := is_rows ht hc (by omega) h
  refine ⟨a, len, cap, h1, h2, h3, h4, ?_⟩
  have each : ∀ (css : List (List Value)), (∀ cs ∈ css, ∃ s : ByteArray, cs = [.string s] ∧ s.size ≤ B) → ∃ l : List ByteArray, css = l.map (fun s => [.string s]) ∧ ∀ s ∈ l, s.size ≤ B := by
    intro css
    induction css with
    | nil => exact fun _ => ⟨[], rfl, fun s hs => by cases hs⟩
    | cons x css ih =>
      intro hx
      obtain ⟨s, rfl, hs⟩ := hx x (List.mem_cons_self ..)
      obtain ⟨l, rfl, hl⟩ := ih fun cs hcs => hx cs (List.mem_cons_of_mem _ hcs)
      exact ⟨s :: l, rfl, fun y hy => by
        rcases List.mem_cons.1 hy with rfl | hy
        · exact hs
        · exact hl y hy⟩
  obtain ⟨l, rfl, hb⟩ := each css fun cs hcs => by
    obtain ⟨j, hj, e1⟩ := List.mem_iff_getElem.1 hcs
    obtain ⟨k1, _⟩ := hi j cs (by rw [List.getElem?_eq_getElem hj, e1])
    exact Is.str he k1
  refine ⟨l, by simpa using hl, hb, fun j u hu => ?_⟩
  rw [List.getElem?_map] at hu
  obtain ⟨s, hs, rfl⟩ := Option.map_eq_some_iff.1 hu
  obtain ⟨A, hA, hcell⟩ := hr j [.string s] 0 (.string s) (by rw [List.getElem?_map, hs]; rfl) rfl
  refine ⟨A, hA, ?_⟩
  rwa [Nat.mul_one, show addK (addK A j) 0 = addK A j from by unfold addK; simp [Addr.add]] at hcell
end Go.Proofs.YtjbgckpalaodaaaDoorEng
