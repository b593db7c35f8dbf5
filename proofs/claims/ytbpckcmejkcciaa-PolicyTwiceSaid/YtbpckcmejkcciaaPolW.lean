/-
  Policies: the law PolicyChecks, walked.
-/
import Derived.Test.YtbpckcmejkcciaaPolV
import Derived.Test.YtbpckcmejkcciaaBQ
set_option maxRecDepth 100000
set_option linter.unusedVariables false
set_option linter.unusedSimpArgs false
namespace Go.Proofs.Ytbpckcmejkcciaa.B
open Go Go.Proofs Go.Proofs.YtbpckcmejkcciaaEng

theorem bytes_same {a b : ByteArray} (h : ByteArray.toList a = ByteArray.toList b) : a = b := by
  rw [Lib.toList_data, Lib.toList_data] at h
  obtain ⟨⟨x⟩⟩ := a
  obtain ⟨⟨y⟩⟩ := b
  have : x = y := h
  rw [this]
/-- Check, by the document -/
theorem rCheck_ok {w : World} {main : Tm} {v : V4} {qs : List Qu} {qa : Option Addr} {qn qc : Nat} (hv : v.is w main) (hq : QsAt w qs qa) (hql : qn = qs.length) (hqm : qn ≤ 9223372036854775807) :
    Calls Try.prog 10 #[.agg (parr v qa qn qc)] w (endW (fun r w' => r = .int .i64 (checkS main qs) ∧ Chg NoS w w') (fun _ _ => False)) := by
  refine F10_calls v.op v.f v.n v.b v.m v.c qa qn qc ?_
  delta F10
  have hP := mine_alloc (Chg.refl NoS w) (parr v qa qn qc) 29
  generalize w.alloc (.cells (parr v qa qn qc) 29) = w1 at *
  refine ⟨fun _ w2 => qs.length ≤ 32 ∧ bigS (main :: preds qs) = false ∧ Mine w w2 w.heap.size (parr v qa qn qc) 29, ?_, ?_⟩
  rotate_left
  · refine ⟨_, _, _, (mine_cell hP 4).trans rfl, ?_⟩
    by_cases h32 : 32 < qn
    · rw [if_neg (by simp; omega)]
      refine ⟨?_, hP.2.1⟩
      unfold checkS
      rw [if_pos (by omega)]
    rw [if_pos (by simp; omega)]
    refine get5p hP ?_
    refine Calls.then (rBig_ok (hv.keep hP.2.1) (hq.keep hP.2.1) hql hqm) ?_
    rintro r w2 ⟨rfl, hc2⟩
    refine ⟨_, rfl, ?_⟩
    by_cases hb : bigS (main :: preds qs) = true
    · rw [if_pos hb]
      refine ⟨?_, (hP.keep hc2).2.1⟩
      unfold checkS
      rw [if_neg (by omega), if_pos hb]
    · rw [if_neg hb]
      exact ⟨(), trivial, by omega, by simpa using hb, hP.keep hc2⟩
  rintro _ w2 ⟨h32, hb, hP2⟩ _
  have hcheck : checkS main qs = if rightS main false = true ∧ qAll qs qs.length = true then 0 else 170 := by
    unfold checkS
    rw [if_neg (by omega), if_neg (by simp [hb])]
  refine ⟨_, (wp_cell hP2 0).trans rfl, _, (wp_cell hP2 1).trans rfl, _, (wp_cell hP2 2).trans rfl, _, _, _, (wp_cell hP2 3).trans rfl, ?_⟩
  refine Calls.then (rRight_ok main false _ _ _ _ _ _ w2 (hv.keep hP2.2.1)) ?_
  rintro r w3 ⟨rfl, hc3⟩
  refine ⟨_, rfl, ?_⟩
  have hP3 := hP2.keep hc3
  by_cases hmr : rightS main false = true
  rotate_left
  · rw [if_pos (by simp [hmr])]
    refine ⟨?_, hP3.2.1⟩
    rw [hcheck, if_neg (fun h => hmr h.1)]
  rw [if_neg (by simp [hmr])]
  have hno : ∀ w', Chg NoS w w' → ∀ k, qAll qs (k + 1) = false → k < qs.length → (Value.int .i64 170 = .int .i64 (checkS main qs) ∧ Chg NoS w w') := fun w' hc k hk hkl => ⟨by rw [hcheck, if_neg (fun h => by rw [qAll_false hk _ hkl] at h; cases h.2)], hc⟩
  refine ⟨fun s w4 => ∃ k : Nat, s = k ∧ k ≤ qn ∧ qAll qs k = true ∧ Mine w w4 w.heap.size (parr v qa qn qc) 29, fun s _ => (qn - s).toNat, ⟨0, ⟨rfl, trivial⟩, 0, rfl, by omega, rfl, hP3⟩, ?_⟩
  rintro s w4 ⟨k, rfl, hk, hqk, hP4⟩ _
  have hc4 := hP4.2.1
  refine ⟨_, _, _, (mine_cell hP4 4).trans rfl, ?_⟩
  by_cases hlt : (k : Int) < qn
  rotate_left
  · rw [if_neg (by simpa using hlt)]
    have : k = qs.length := by omega
    subst this
    exact ⟨by rw [hcheck, if_pos ⟨hmr, hqk⟩], hc4⟩
  rw [if_pos (by simpa using hlt)]
  have hkq : k < qs.length := by omega
  have hget := qAll_get hkq
  obtain ⟨A, u, rfl, q0, q1, q2, q3, q4, hu⟩ := hq.cells (List.getElem?_eq_getElem hkq)
  refine ⟨_, _, _, (mine_cell hP4 4).trans rfl, by omega, by omega, ?_⟩
  rw [wSome_some]
  refine ⟨_, cell_keep q0 hc4, _, cell_keep q1 hc4, _, cell_keep q2 hc4, _, cell_keep q3 hc4, _, _, _, cell_keep q4 hc4, ?_⟩
  refine setQ (mine_alloc (Chg.refl NoS w4) _ _) ?_
  intro w5 hM5
  have hP5 := hP4.keep hM5.2.1
  refine ⟨fun _ w6 => nameS qs[k].1 = true ∧ rightS qs[k].2 true = true ∧ Mine w4 w6 w4.heap.size #[.string qs[k].1, .int .i8 u.op, .int .i8 u.f, .int .u64 u.n, .slice u.b u.m u.c] 40 ∧ Mine w w6 w.heap.size (parr v (some A) qn qc) 29, ?_, ?_⟩
  rotate_left
  · refine ⟨_, (mine_cell hM5 0).trans rfl, ?_⟩
    refine Calls.then (rName_ok w5 qs[k].1) ?_
    rintro r w6 ⟨rfl, rfl⟩
    refine ⟨_, rfl, ?_⟩
    by_cases hnm : nameS qs[k].1 = true
    rotate_left
    · rw [if_neg (by simp [hnm])]
      exact hno _ hP5.2.1 k (by rw [hget]; simp [hnm]) hkq
    rw [if_pos (by simp [hnm])]
    refine ⟨_, (mine_cell2 hM5 1 0).trans rfl, _, (mine_cell2 hM5 1 1).trans rfl, _, (mine_cell2 hM5 1 2).trans rfl, _, _, _, (mine_cell2 hM5 1 3).trans rfl, ?_⟩
    refine Calls.then (rRight_ok qs[k].2 true _ _ _ _ _ _ w6 (hu.keep hP5.2.1)) ?_
    rintro r w7 ⟨rfl, hc7⟩
    refine ⟨_, rfl, ?_⟩
    by_cases hr : rightS qs[k].2 true = true
    · rw [if_neg (by simp [hr])]
      exact ⟨(), trivial, hnm, hr, hM5.keep hc7, hP5.keep hc7⟩
    · rw [if_pos (by simp [hr])]
      exact hno _ (hP5.keep hc7).2.1 k (by rw [hget]; simp [hr]) hkq
  rintro _ w6 ⟨hnm, hr, hM6, hP6⟩ _
  refine ⟨fun s w7 => ∃ i : Nat, s = i ∧ i ≤ k ∧ qs[k].1 ∉ names (qs.take i) ∧ Mine w4 w7 w4.heap.size #[.string qs[k].1, .int .i8 u.op, .int .i8 u.f, .int .u64 u.n, .slice u.b u.m u.c] 40 ∧ Mine w w7 w.heap.size (parr v (some A) qn qc) 29, fun s _ => (k - s).toNat, ⟨0, ⟨rfl, trivial⟩, 0, rfl, by omega, by simp [names], hM6, hP6⟩, ?_⟩
  rintro s w7 ⟨i, rfl, hi, hni, hM7, hP7⟩ _
  have htk : ∀ i (hi : i < qs.length), names (qs.take (i + 1)) = names (qs.take i) ++ [qs[i].1] := fun i hi => by
    rw [take_snoc hi]; unfold names; rw [List.map_append]; rfl
  by_cases hik : (i : Int) < k
  · rw [if_pos (by simpa using hik)]
    have hiq : i < qs.length := by omega
    have hc8 := chg_drew w7 NoS
    have hM8 := hM7.keep hc8
    have hP8 := hP7.keep hc8
    generalize w7.drew = w8 at *
    obtain ⟨A', u', eA, p0, _⟩ := hq.cells (List.getElem?_eq_getElem hiq)
    cases eA
    refine ⟨_, _, _, (mine_cell hP8 4).trans rfl, by omega, by omega, ?_⟩
    rw [wSome_some]
    refine ⟨_, cell_keep p0 hP8.2.1, _, (mine_cell hM8 0).trans rfl, ?_⟩
    by_cases he : qs[i].1 = qs[k].1
    · rw [if_pos (by rw [he]; simp)]
      refine hno _ hP8.2.1 k ?_ hkq
      rw [hget]
      have hin : qs[k].1 ∈ names (qs.take k) := by
        unfold names
        refine List.mem_map.2 ⟨qs[i], ?_, he⟩
        rw [List.mem_take_iff_getElem]
        exact ⟨i, by omega, rfl⟩
      simp [hin]
    · rw [if_neg (by
        intro h
        have h2 := eq_of_beq h
        exact he (bytes_same h2))]
      refine ⟨(i : Int) + 1, ⟨by rw [i64w _ (by omega) (by omega)], trivial⟩, ⟨i + 1, by omega, by omega, ?_, hM8, hP8⟩, by first | omega | (dsimp only; omega)⟩
      rw [htk i hiq, List.mem_append]
      rintro (h | h)
      · exact hni h
      · exact he (List.mem_singleton.1 h).symm
  · rw [if_neg (by simpa using hik)]
    have hik' : i = k := by omega
    subst hik'
    refine ⟨(i : Int) + 1, ⟨by rw [i64w _ (by omega) (by omega)], trivial⟩, ⟨i + 1, by omega, by omega, ?_, hP7⟩, by first | omega | (dsimp only; omega)⟩
    rw [hget, hqk, hnm, hr]
    simp [hni]
theorem PolicyChecks_walk (u0 : V4) (qa0 : Option Addr) (qn0 qc0 : Nat) (main0 : Tm) (qs0 : List Qu) (w : World) (i0 : PolIn w u0 qa0 qn0 qc0 main0 qs0) :
    Calls Try.prog 3 #[.agg (parr u0 qa0 qn0 qc0)] w (endW (fun v w' => v = .bool true ∧ Chg NoS w w') (fun _ _ => False)) := by
  refine F3_calls u0.op u0.f u0.n u0.b u0.m u0.c qa0 qn0 qc0 ?_
  delta F3
  have hP0 := mine_alloc (Chg.refl NoS w) (parr u0 qa0 qn0 qc0) 29
  refine ⟨NoS, fun x => x, ?_⟩
  generalize w.alloc (.cells (parr u0 qa0 qn0 qc0) 29) = w1 at *
  have hP := hP0.keep (chg_drew w1 NoS)
  generalize w1.drew = wd at *
  have hc := hP.2.1
  refine get5p hP ⟨fun x => x, get5p hP ?_⟩
  refine Calls.then (Check_ok (i0.main.keep hc) (i0.row.keep hc) i0.len) ?_
  rintro r w2 ⟨rfl, hc2⟩
  refine ⟨_, rfl, keptN hc2, ?_⟩
  refine Calls.then (rCheck_ok (i0.main.keep (hc.trans hc2)) (i0.row.keep (hc.trans hc2)) i0.len i0.most) ?_
  rintro r w3 ⟨rfl, hc3⟩
  have hc3' := hc2.trans hc3
  refine ⟨_, rfl, keptN hc3', ?_⟩
  rw [if_pos (by simp)]
  refine ⟨fun x => x, _, (wp_cell hP 0).trans rfl, _, (wp_cell hP 1).trans rfl, _, (wp_cell hP 2).trans rfl, _, _, _, (wp_cell hP 3).trans rfl, fun x => x, _, (wp_cell hP 0).trans rfl, _, (wp_cell hP 1).trans rfl, _, (wp_cell hP 2).trans rfl, _, _, _, (wp_cell hP 3).trans rfl, ?_⟩
  refine Calls.then (Pred_ok (i0.main.keep (hc.trans hc3'))) ?_
  rintro r w4 ⟨rfl, hc4⟩
  have hc4' := hc3'.trans hc4
  refine ⟨_, rfl, keptN hc4', ?_⟩
  refine Calls.then (rPred_ok (i0.main.keep (hc.trans hc4'))) ?_
  rintro r w5 ⟨rfl, hc5⟩
  refine ⟨_, rfl, ?_⟩
  rw [if_pos (by simp)]
  refine Calls.then (Wakes_ok w5) ?_
  rintro r w6 ⟨rfl, hc6⟩
  exact ⟨_, rfl, rfl, hc.trans (hc4'.trans (hc5.trans hc6))⟩
end Go.Proofs.Ytbpckcmejkcciaa.B
