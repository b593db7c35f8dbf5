/-
  A loop over a map: its steps.
-/
import Derived.Test.YthifnahfcbgnoaaDoorEngR
import Derived.Laws.IdiomRangeMap
import Derived.MapKept
namespace Go.Proofs.YthifnahfcbgnoaaDoorEng
open Go
set_option linter.unusedSimpArgs false
set_option linter.unusedVariables false
variable {P : Program}

theorem range_map {w : World} {t k e : TypeId} {m : Nat} {es : Array MapEntry} {c : Nat} {K : Value → World → Prop} {E : PanW} (ht : P.underlying t = some (.map k e)) (hm : w.heap[m]? = some (.map es c))
    (hK : ∀ w', w'.heap[w.heap.size]? = some (.mapIter (some m) c #[] c) → Chg NoS w w' → w'.heap.size = w.heap.size + 1 → K (.pointer (some ⟨w.heap.size, 0, none⟩)) w') : runV P (Instr.range t (.map (some m))) w K E := by
  unfold runV
  rw [run_range_map w t k e m es c ht hm]
  exact hK _ (blk_alloc w _) (chg_alloc w _ NoS) (size_alloc w _)
theorem chg_set {w : World} {r : Nat} {o o' : Obj} (h : w.heap[r]? = some o) : ({ w with heap := w.heap.setIfInBounds r o' } : World).heap[r]? = some o' ∧ Chg (OnlyB r) w { w with heap := w.heap.setIfInBounds r o' } ∧ ({ w with heap := w.heap.setIfInBounds r o' } : World).heap.size = w.heap.size :=
  ⟨Array.getElem?_setIfInBounds_self_of_lt (lt_of_blk h), ⟨rfl, rfl, rfl, by simp, fun k hk hne => Array.getElem?_setIfInBounds_ne (fun e => hne e.symm)⟩, by simp⟩
theorem next_map {w : World} {it m since last c : Nat} {seen : Array Nat} {es : Array MapEntry} {t : TypeId} {K : Value → World → Prop} {E : PanW} (hit : w.heap[it]? = some (.mapIter (some m) since seen last)) (hm : w.heap[m]? = some (.map es c))
    (hok : (!seen.isEmpty && !es.isEmpty && es.all (fun x => decide (x.born ≥ last))) = false)
    (hdone : (∀ e ∈ es.toList, seen.contains e.born = false → since ≤ e.born) → ∀ w', w'.heap = w.heap → Chg NoS w w' → K (.tuple #[.bool false]) w')
    (hstep : ∀ e ∈ es.toList, seen.contains e.born = false → ∀ w', w'.heap[it]? = some (.mapIter (some m) since (seen.push e.born) c) → Chg (OnlyB it) w w' → w'.heap.size = w.heap.size → K (.tuple #[.bool true, e.key, e.val]) w') :
    runV P (Instr.next (.pointer (some ⟨it, 0, none⟩)) false t) w K E := by
  have hch : ∀ (n : Nat), 0 < n → ∃ (j : Nat) (w1 : World), j < n ∧ w1.heap = w.heap ∧ Chg NoS w w1 ∧ (choose (Question.mapNext n)).run P w = .ok j w1 := fun n hn => by
    by_cases hf : n ≤ 1
    · exact ⟨0, w, hn, rfl, Chg.refl _ _, by simp [choose, Sem.run, Question.forced, hf]⟩
    · exact ⟨_, w.drew, Nat.mod_lt _ hn, rfl, chg_drew w NoS, by
        simp only [choose, Sem.run, Question.forced, decide_eq_true_eq, hf, if_false, Question.cut]
        rfl⟩
  let left := es.filter fun e => !seen.contains e.born
  let old := left.filter (·.born < since)
  let new := left.filter (·.born ≥ since)
  let cands : Array (Option MapEntry) := (if old.isEmpty then #[none] else #[]) ++ (old ++ new).map some
  have hpos : 0 < cands.size := by
    show 0 < ((if old.isEmpty then #[none] else #[]) ++ (old ++ new).map some).size
    by_cases ho : old.isEmpty = true
    · rw [if_pos ho]; simp; omega
    · rw [if_neg ho]
      have : 0 < old.size := by
        rcases Nat.eq_zero_or_pos old.size with h0 | h0
        · simp [Array.isEmpty, h0] at ho
        · exact h0
      simp; omega
  obtain ⟨j, w1, hj, hh, hc1, hrun⟩ := hch cands.size hpos
  have hget : cands[j]? = some cands[j] := Array.getElem?_eq_getElem hj
  have hmem : cands[j] ∈ cands := Array.getElem_mem hj
  have hit1 : w1.heap[it]? = some (.mapIter (some m) since seen last) := by rw [hh]; exact hit
  have hgo : (getObj it).run P w = .ok (.mapIter (some m) since seen last) w := by simp [getObj, Sem.run, hit]
  have hgm : (getObj m).run P w = .ok (.map es c) w := by simp [getObj, Sem.run, hm]
  have hbody : (Instr.next (.pointer (some ⟨it, 0, none⟩)) false t).run P w = (match cands[j] with
      | some e => .ok (.tuple #[.bool true, e.key, e.val]) { w1 with heap := w1.heap.setIfInBounds it (.mapIter (some m) since (seen.push e.born) c) }
      | none => .ok (.tuple #[.bool false]) w1) := by
    simp only [Instr.next, Sem.run_bind, hgo, hgm, Result.andThen, hok, Bool.false_eq_true, if_false]
    show (Result.andThen ((choose (Question.mapNext cands.size)).run P w) fun j w => _) = _
    rw [hrun]
    simp only [Result.andThen]
    rw [show ((if old.isEmpty = true then #[none] else #[]) ++ Array.map some (old ++ new))[j]? = some cands[j] from hget]
    cases hcj : cands[j] with
    | none => rfl
    | some e =>
      simp only [Sem.run_bind]
      have hset : (setObj it (.mapIter (some m) since (seen.push e.born) c)).run P w1 = .ok () { w1 with heap := w1.heap.setIfInBounds it (.mapIter (some m) since (seen.push e.born) c) } := by
        simp [setObj, Sem.run, hit1]
      rw [hset]
      rfl
  unfold runV
  rw [hbody]
  cases hcj : cands[j] with
  | none =>
    refine hdone (fun e he hs => ?_) w1 hh hc1
    rw [hcj] at hmem
    have ho : old.isEmpty = true := by
      rcases Array.mem_append.1 hmem with h | h
      · by_cases ho : old.isEmpty = true
        · exact ho
        · rw [if_neg ho] at h; simp at h
      · obtain ⟨x, _, hx⟩ := Array.mem_map.1 h
        cases hx
    rcases Nat.lt_or_ge e.born since with hlt | hge
    · have hin : e ∈ old := by
        refine Array.mem_filter.2 ⟨Array.mem_filter.2 ⟨by simpa using he, by simpa using hs⟩, by simpa using hlt⟩
      rw [Array.isEmpty_iff] at ho
      rw [ho] at hin
      simp at hin
    · exact hge
  | some e =>
    rw [hcj] at hmem
    have hin : e ∈ old ++ new := by
      rcases Array.mem_append.1 hmem with h | h
      · by_cases ho : old.isEmpty = true
        · rw [if_pos ho] at h; simp at h
        · rw [if_neg ho] at h; simp at h
      · obtain ⟨x, hx, hxe⟩ := Array.mem_map.1 h
        cases hxe
        exact hx
    have hleft : e ∈ left := by
      rcases Array.mem_append.1 hin with h | h
      · exact (Array.mem_filter.1 h).1
      · exact (Array.mem_filter.1 h).1
    obtain ⟨g1, g2⟩ := Array.mem_filter.1 hleft
    obtain ⟨s1, s2, s3⟩ := chg_set (o' := .mapIter (some m) since (seen.push e.born) c) hit1
    exact hstep e (by simpa using g1) (by simpa using g2) _ s1 ((hc1.mono fun _ _ x => x.elim).trans s2) (by rw [s3, hh])
theorem entry_map {w : World} {it m since c : Nat} {seen : Array Nat} {es : Array MapEntry} {e : MapEntry} {K : Value → World → Prop} {E : PanW} (hit : w.heap[it]? = some (.mapIter (some m) since (seen.push e.born) c)) (hm : w.heap[m]? = some (.map es c))
    (he : e ∈ es.toList) (hn : (es.toList.map (·.born)).Nodup) (hK : K (.tuple #[e.key, e.val]) w) : runV P (Instr.entry (.pointer (some ⟨it, 0, none⟩))) w K E := by
  have hgo : (getObj it).run P w = .ok (.mapIter (some m) since (seen.push e.born) c) w := by simp [getObj, Sem.run, hit]
  have hgm : (getObj m).run P w = .ok (.map es c) w := by simp [getObj, Sem.run, hm]
  have hf : es.find? (·.born == e.born) = some e := by rw [← Array.find?_toList]; exact find_born e es.toList hn he
  unfold runV
  simp only [Instr.entry, Sem.run_bind, hgo, hgm, Result.andThen, Array.back?_push, bne_self_eq_false, Bool.false_eq_true, if_false, hf]
  exact hK
end Go.Proofs.YthifnahfcbgnoaaDoorEng
