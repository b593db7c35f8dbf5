/-
  Policies: names by the document; a map of names; too big, by the document; Pred.
-/
import Derived.Test.YtbpckcmejkcciaaPolI
import Derived.Test.YtbpckcmejkcciaaBB
set_option linter.unusedVariables false
set_option linter.unusedSimpArgs false
namespace Go.Proofs.Ytbpckcmejkcciaa.B
open Go Go.Proofs Go.Proofs.YtbpckcmejkcciaaEng

theorem rName_ok (w : World) (s : ByteArray) : Calls Try.prog 29 #[.string s] w (endW (fun v w' => v = .bool (nameS s) ∧ w' = w) (fun _ _ => False)) := by
  refine F29_calls s ?_
  delta F29
  refine ⟨fun _ w' => w' = w ∧ s.size ≠ 0 ∧ s.size ≤ 32, ?_, ?_⟩
  rotate_left
  · rw [empty_iff]
    by_cases h0 : s.size = 0
    · rw [if_neg (by simp [h0])]
      exact ⟨by unfold nameS; simp [h0], rfl⟩
    rw [if_pos (by simp [h0])]
    by_cases h32 : s.size ≤ 32
    · rw [if_neg (by simp; omega)]
      exact ⟨(), trivial, rfl, h0, h32⟩
    · rw [if_pos (by simp; omega)]
      refine ⟨?_, rfl⟩
      unfold nameS
      rw [decide_eq_false h32]
      simp
  rintro _ w' ⟨hw', h0, h32⟩ _
  subst hw'
  have hres : ∀ b, b = allB s s.size → b = nameS s := fun b hb => by
    unfold nameS
    rw [hb, decide_eq_true h0, decide_eq_true h32]
    simp
  refine ⟨fun t w2 => ∃ j : Nat, t = j ∧ j ≤ s.size ∧ w2 = w' ∧ allB s j = true, fun t _ => (s.size - t).toNat, ⟨0, ⟨rfl, trivial⟩, 0, rfl, by omega, rfl, rfl⟩, ?_⟩
  rintro t w2 ⟨j, rfl, hj, rfl, hall⟩ _
  by_cases hlt : (j : Int) < s.size
  · rw [if_pos (by simpa using hlt)]
    have hj' : j < s.size := by omega
    refine ⟨by omega, by omega, fun b w3 => w3 = w2 ∧ b = letS (byteAt s j), ?_, ?_⟩
    · rintro b w3 ⟨rfl, rfl⟩ _
      have hno : okS s j = false → (Value.bool false = .bool (nameS s) ∧ w3 = w3) := fun h => ⟨by rw [hres false (allB_false h _ hj').symm], rfl⟩
      by_cases hl : letS (byteAt s j) = true
      · rw [if_neg (by simp [hl])]
        exact ⟨(j : Int) + 1, ⟨by rw [i64w _ (by omega) (by omega)], trivial⟩, ⟨j + 1, by omega, by omega, rfl, by simp only [allB, okS]; rw [hall, hl]; rfl⟩, by first | omega | (dsimp only; omega)⟩
      rw [if_pos (by simp [hl])]
      have hok : okS s j = (decide (j ≠ 0) && digS (byteAt s j)) := by unfold okS; rw [eq_false_of_ne_true hl]; rfl
      by_cases hj0 : j = 0
      · rw [if_neg (by simp [hj0])]
        exact hno (by rw [hok]; simp [hj0])
      rw [if_pos (by simp; omega)]
      by_cases h48 : byteAt s j < 48
      · rw [if_neg (by simpa using h48)]
        exact hno (by rw [hok]; unfold digS; simp; omega)
      rw [if_pos (by simpa using h48)]
      by_cases h57 : byteAt s j > 57
      · rw [if_pos (by simpa using h57)]
        exact hno (by rw [hok]; unfold digS; simp; omega)
      · rw [if_neg (by simpa using h57)]
        exact ⟨(j : Int) + 1, ⟨by rw [i64w _ (by omega) (by omega)], trivial⟩, ⟨j + 1, by omega, by omega, rfl, by simp only [allB]; rw [hall, hok]; unfold digS; simp [hj0]; omega⟩, by first | omega | (dsimp only; omega)⟩
    · have h95 : ∀ h : ¬ (97 ≤ byteAt s j ∧ byteAt s j ≤ 122) ∧ ¬ (65 ≤ byteAt s j ∧ byteAt s j ≤ 90), ∃ (s_1 : Bool), (Value.bool s_1 = Value.bool (byteAt s j == 95) ∧ True) ∧ (w2 = w2 ∧ s_1 = letS (byteAt s j)) := fun h => ⟨_, ⟨rfl, trivial⟩, rfl, by
        unfold letS
        by_cases h9 : byteAt s j = 95
        · simp [h9]
        · have : ¬ (byteAt s j = 95 ∨ (97 ≤ byteAt s j ∧ byteAt s j ≤ 122) ∨ (65 ≤ byteAt s j ∧ byteAt s j ≤ 90)) := by omega
          rw [decide_eq_false this]
          simp [h9]⟩
      have hyes : ∀ h : (97 ≤ byteAt s j ∧ byteAt s j ≤ 122) ∨ (65 ≤ byteAt s j ∧ byteAt s j ≤ 90), ∃ (s_1 : Bool), (Value.bool s_1 = Value.bool true ∧ True) ∧ (w2 = w2 ∧ s_1 = letS (byteAt s j)) := fun h => ⟨_, ⟨rfl, trivial⟩, rfl, by unfold letS; rw [decide_eq_true (by omega)]⟩
      by_cases ha : byteAt s j ≥ 97
      · rw [if_pos (by simpa using ha)]
        by_cases hz : byteAt s j ≤ 122
        · rw [if_neg (by simpa using hz)]
          exact hyes (.inl ⟨ha, hz⟩)
        · rw [if_pos (by simpa using hz)]
          by_cases hA : byteAt s j ≥ 65
          · rw [if_pos (by simpa using hA), if_pos (by simp; omega)]
            exact h95 (by omega)
          · omega
      · rw [if_neg (by simpa using ha)]
        by_cases hA : byteAt s j ≥ 65
        · rw [if_pos (by simpa using hA)]
          by_cases hZ : byteAt s j ≤ 90
          · rw [if_neg (by simpa using hZ)]
            exact hyes (.inr ⟨hA, hZ⟩)
          · rw [if_pos (by simpa using hZ)]
            exact h95 (by omega)
        · rw [if_neg (by simpa using hA)]
          exact h95 (by omega)
  · rw [if_neg (by simpa using hlt)]
    have : j = s.size := by omega
    subst this
    exact ⟨by rw [hres true hall.symm], rfl⟩

theorem ba_beq (s t : ByteArray) : (s == t) = decide (s = t) := by
  obtain ⟨a⟩ := s
  obtain ⟨b⟩ := t
  have h : ((⟨a⟩ : ByteArray) == ⟨b⟩) = (a == b) := rfl
  rw [h]
  by_cases e : a = b
  · subst e; simp
  · have : ¬ (⟨a⟩ : ByteArray) = ⟨b⟩ := fun x => e (by injection x)
    simp [e]
/-! ### a map of the call's own: names that have been seen once -/
def MapSt (w : World) (r : Nat) (ns : List ByteArray) : Prop := ∃ es clock, w.heap[r]? = some (.map es clock) ∧ es.toList.map (fun e => (e.key, e.val)) = ns.map (fun s => (Value.string s, Value.int .i64 1))
theorem MapSt.keep {S : Nat → Prop} {w w' : World} {r : Nat} {ns : List ByteArray} (h : MapSt w r ns) (hc : Chg S w w') (hs : ¬ S r) : MapSt w' r ns := by
  obtain ⟨es, clock, h1, h2⟩ := h
  exact ⟨es, clock, hc.blk h1 hs, h2⟩
theorem find_none {s : ByteArray} : ∀ (l : List MapEntry) (ns : List ByteArray) (i : Nat), l.map (fun e => (e.key, e.val)) = ns.map (fun s => (Value.string s, Value.int .i64 1)) → s ∉ ns → Instr.findNow .string (.string s) l i = some none
  | [], ns, i, _, _ => rfl
  | e :: l, [], i, h, _ => by simp at h
  | e :: l, n :: ns, i, h, hs => by
    simp only [List.map_cons, List.cons.injEq, Prod.mk.injEq] at h
    have hne : ¬ s = n := fun x => hs (by rw [x]; exact List.mem_cons_self)
    simp only [Instr.findNow, h.1.1, Instr.sameNow]
    have : (s == n) = false := by rw [ba_beq]; exact decide_eq_false hne
    rw [this]
    exact find_none l ns (i + 1) h.2 (fun x => hs (List.mem_cons_of_mem _ x))
theorem find_some {s : ByteArray} : ∀ (l : List MapEntry) (ns : List ByteArray) (i : Nat), l.map (fun e => (e.key, e.val)) = ns.map (fun s => (Value.string s, Value.int .i64 1)) → s ∈ ns → ∃ j e, Instr.findNow .string (.string s) l i = some (some (i + j, .int .i64 1)) ∧ l[j]? = some e ∧ e.key = .string s
  | [], ns, i, h, hs => by
    cases ns with
    | nil => cases hs
    | cons n ns => simp at h
  | e :: l, [], i, h, _ => by simp at h
  | e :: l, n :: ns, i, h, hs => by
    simp only [List.map_cons, List.cons.injEq, Prod.mk.injEq] at h
    simp only [Instr.findNow, h.1.1, Instr.sameNow]
    by_cases heq : s = n
    · subst heq
      refine ⟨0, e, ?_, rfl, h.1.1⟩
      have : (s == s) = true := by rw [ba_beq]; simp
      rw [this]
      simp [h.1.2]
    · have : (s == n) = false := by rw [ba_beq]; exact decide_eq_false heq
      rw [this]
      obtain ⟨j, e', h1, h2, h3⟩ := find_some l ns (i + 1) h.2 ((List.mem_cons.1 hs).resolve_left heq)
      exact ⟨j + 1, e', by rw [show i + (j + 1) = i + 1 + j from by omega]; exact h1, by simpa using h2, h3⟩
theorem mapT : Try.prog.underlying 51 = some (.map 9 3) := by kernel_rfl
theorem check_key (w : World) (e : Bool) (s : ByteArray) : (Instr.checkKey e 10000 9 (.string s)).run Try.prog w = .ok () w := MapKept.run_checkKey (k := .string s) Try.underlying9 (by simp [MapKept.IsKey]) e 9999
theorem zero3 (w : World) : (zeroValue 3).run Try.prog w = .ok (.int .i64 0) w := by
  obtain ⟨i, hi, hz, _⟩ := info_open' (P := Try.prog) (t := 3) (z := .int .i64 0) (s := 1) (b := 8) (by kernel_rfl)
  simp [zeroValue, typeInfo, hi, hz]
theorem look_new {w : World} {r : Nat} {ns : List ByteArray} {s : ByteArray} (h : MapSt w r ns) (hs : s ∉ ns) : (Instr.lookup 51 (.map (some r)) (.string s) false).run Try.prog w = .ok (.int .i64 0) w := by
  obtain ⟨es, clock, h1, h2⟩ := h
  simp [Instr.lookup, run_underlying mapT, MapKept.run_getObj_map h1, check_key, MapKept.run_findKey Try.underlying9 (find_none es.toList ns 0 h2 hs), zero3, Result.andThen]
theorem look_old {w : World} {r : Nat} {ns : List ByteArray} {s : ByteArray} (h : MapSt w r ns) (hs : s ∈ ns) : (Instr.lookup 51 (.map (some r)) (.string s) false).run Try.prog w = .ok (.int .i64 1) w := by
  obtain ⟨es, clock, h1, h2⟩ := h
  obtain ⟨j, e, h3, h4, h5⟩ := find_some es.toList ns 0 h2 hs
  simp [Instr.lookup, run_underlying mapT, MapKept.run_getObj_map h1, check_key, MapKept.run_findKey Try.underlying9 h3, Result.andThen]
/-- A new name is written down. -/
theorem upd_new {w : World} {r : Nat} {ns : List ByteArray} {s : ByteArray} {K : World → Prop} {E : PanW} (h : MapSt w r ns) (hs : s ∉ ns) (hK : ∀ w', MapSt w' r (ns ++ [s]) → Chg (OnlyB r) w w' → K w') : runU Try.prog (Instr.mapUpdate 51 (.map (some r)) (.string s) (.int .i64 1)) w K E := by
  obtain ⟨es, clock, h1, h2⟩ := h
  have hlt := lt_of_blk h1
  have hrun : (Instr.mapUpdate 51 (.map (some r)) (.string s) (.int .i64 1)).run Try.prog w = .ok () { w with heap := w.heap.setIfInBounds r (.map (es.push { key := .string s, val := .int .i64 1, born := clock }) (clock + 1)) } := by
    simp [Instr.mapUpdate, run_underlying mapT, MapKept.run_getObj_map h1, check_key, MapKept.run_findKey Try.underlying9 (find_none es.toList ns 0 h2 hs), MapKept.run_setObj_map _ h1, Result.andThen]
  unfold runU
  rw [hrun]
  refine hK _ ⟨es.push { key := .string s, val := .int .i64 1, born := clock }, clock + 1, ?_, ?_⟩ ⟨rfl, rfl, rfl, by simp, fun k hk hne => ?_⟩
  · exact Array.getElem?_setIfInBounds_self_of_lt hlt
  · simp [h2]
  · exact Array.getElem?_setIfInBounds_ne (fun e => hne e.symm)
/-- A name that is there is counted twice. -/
theorem upd_old {w : World} {r : Nat} {ns : List ByteArray} {s : ByteArray} {K : World → Prop} {E : PanW} (h : MapSt w r ns) (hs : s ∈ ns) (hK : ∀ w', (∀ w2, (∀ o, w'.heap[r]? = some o → w2.heap[r]? = some o) → (Instr.lookup 51 (.map (some r)) (.string s) false).run Try.prog w2 = .ok (.int .i64 2) w2) → Chg (OnlyB r) w w' → K w') : runU Try.prog (Instr.mapUpdate 51 (.map (some r)) (.string s) (.int .i64 2)) w K E := by
  obtain ⟨es, clock, h1, h2⟩ := h
  have hlt := lt_of_blk h1
  obtain ⟨j, e, h3, h4, h5⟩ := find_some es.toList ns 0 h2 hs
  rw [Nat.zero_add] at h3
  have h4' : es[j]? = some e := by rw [← Array.getElem?_toList]; exact h4
  have hss : (s == s) = true := by rw [ba_beq]; simp
  have hrun : (Instr.mapUpdate 51 (.map (some r)) (.string s) (.int .i64 2)).run Try.prog w = .ok () { w with heap := w.heap.setIfInBounds r (.map (es.modify j fun e => { e with key := .string s, val := .int .i64 2 }) clock) } := by
    simp [Instr.mapUpdate, run_underlying mapT, MapKept.run_getObj_map h1, check_key, MapKept.run_findKey Try.underlying9 h3, MapKept.run_setObj_map _ h1, Result.andThen, h4', h5, Instr.keyThatStays, Instr.sameBits, hss]
  unfold runU
  rw [hrun]
  have hnew : ({ w with heap := w.heap.setIfInBounds r (.map (es.modify j fun e => { e with key := .string s, val := .int .i64 2 }) clock) } : World).heap[r]? = some (.map (es.modify j fun e => { e with key := .string s, val := .int .i64 2 }) clock) := Array.getElem?_setIfInBounds_self_of_lt hlt
  refine hK _ (fun w2 hw2 => ?_) ⟨rfl, rfl, rfl, by simp, fun k hk hne => Array.getElem?_setIfInBounds_ne (fun e => hne e.symm)⟩
  have hb := hw2 _ hnew
  have hfind : ∀ (l : List MapEntry) (i j : Nat) (e : MapEntry), (∀ x ∈ l, ∃ t, x.key = .string t) → Instr.findNow .string (.string s) l i = some (some (i + j, .int .i64 1)) → l[j]? = some e →
      Instr.findNow .string (.string s) (l.modify j fun e => { e with key := .string s, val := .int .i64 2 }) i = some (some (i + j, .int .i64 2)) := by
    intro l
    induction l with
    | nil => intro i j e _ _ h; simp at h
    | cons x l ih =>
      intro i j e hk hf hj
      obtain ⟨t, ht⟩ := hk x List.mem_cons_self
      cases j with
      | zero =>
        have : (s == s) = true := by rw [ba_beq]; simp
        simp [List.modify, Instr.findNow, Instr.sameNow, this]
      | succ j =>
        simp only [Instr.findNow, ht, Instr.sameNow] at hf
        by_cases hst : (s == t) = true
        · rw [hst] at hf
          simp at hf
        · rw [eq_false_of_ne_true hst] at hf
          simp only [List.modify_succ_cons, Instr.findNow, ht, Instr.sameNow]
          rw [eq_false_of_ne_true hst]
          have := ih (i + 1) j e (fun y hy => hk y (List.mem_cons_of_mem _ hy)) (by rw [show i + 1 + j = i + (j + 1) from by omega]; exact hf) (by simpa using hj)
          rw [show i + (j + 1) = i + 1 + j from by omega]
          exact this
  have hkeys : ∀ x ∈ es.toList, ∃ t, x.key = .string t := fun x hx => by
    have : (x.key, x.val) ∈ es.toList.map (fun e => (e.key, e.val)) := List.mem_map_of_mem hx
    rw [h2] at this
    obtain ⟨t, _, ht⟩ := List.mem_map.1 this
    simp only [Prod.mk.injEq] at ht
    exact ⟨t, ht.1.symm⟩
  have hf2 := hfind es.toList 0 j e hkeys (by rw [Nat.zero_add]; exact h3) h4
  rw [Nat.zero_add] at hf2
  simp [Instr.lookup, run_underlying mapT, MapKept.run_getObj_map hb, check_key, MapKept.run_findKey Try.underlying9 hf2, Result.andThen]
end Go.Proofs.Ytbpckcmejkcciaa.B
