/-
  Policies: Check and Pred, by the document; Pred, by the program.
-/
import Derived.Test.YtbpckcmejkcciaaPolL
set_option linter.unusedVariables false
set_option linter.unusedSimpArgs false
namespace Go.Proofs.Ytbpckcmejkcciaa.B
open Go Go.Proofs Go.Proofs.YtbpckcmejkcciaaEng

theorem ite2 {c d : Prop} [Decidable c] [Decidable d] {A T : Prop} (h : ¬ (c ∧ d)) : (if c then if d then A else T else T) = T := by
  by_cases hc : c
  · rw [if_pos hc, if_neg (fun hd => h ⟨hc, hd⟩)]
  · rw [if_neg hc]
theorem lsize_preds_take {qs : List Qu} {k : Nat} (hk : k < qs.length) : lsize (preds (qs.take (k + 1))) = lsize (preds (qs.take k)) + tsize qs[k].2 := by
  rw [take_snoc hk]
  unfold preds
  rw [List.map_append, lsize_append]
  simp [lsize]
theorem lsize_preds_le (qs : List Qu) (k : Nat) : lsize (preds (qs.take k)) ≤ lsize (preds qs) := by
  rw [← preds_take]; exact lsize_take_le _ _
theorem ldepth_preds_take {qs : List Qu} {k : Nat} (hk : k < qs.length) : ldepth (preds (qs.take (k + 1))) = max (ldepth (preds (qs.take k))) (tdepth qs[k].2) := by
  rw [take_snoc hk]
  unfold preds
  rw [List.map_append, ldepth_append]
  simp [ldepth]
theorem ldepth_mem {qs : List Qu} {k : Nat} (hk : k < qs.length) : tdepth qs[k].2 ≤ ldepth (preds qs) := tdepth_le (List.mem_map.2 ⟨qs[k], List.getElem_mem hk, rfl⟩)

theorem min_facts (a : Nat) : 0 ≤ ((min a (4096 + 1) : Nat) : Int) ∧ ((min a (4096 + 1) : Nat) : Int) ≤ 4097 ∧ (a ≤ 4096 → ((min a (4096 + 1) : Nat) : Int) = a) ∧ (4096 < a → ((min a (4096 + 1) : Nat) : Int) = 4097) := by
  rw [Nat.min_def]
  split <;> omega
theorem QsAt.tm {w : World} {qs : List Qu} {a : Option Addr} (h : QsAt w qs a) {j : Nat} {q : Qu} (hj : qs[j]? = some q) : ∃ A, ∃ v : V4, a = some A ∧ w.cell? (addK (addK (addK A (j * 5)) 1) 0) = some (.int .i8 v.op) ∧ w.cell? (addK (addK (addK A (j * 5)) 1) 1) = some (.int .i8 v.f) ∧ w.cell? (addK (addK (addK A (j * 5)) 1) 2) = some (.int .u64 v.n) ∧ w.cell? (addK (addK (addK A (j * 5)) 1) 3) = some (.slice v.b v.m v.c) ∧ v.is w q.2 := by
  obtain ⟨A, h1, h2, op, f, n, b, m, c, h3, h4, h5, h6, h7⟩ := h j q hj
  exact ⟨A, ⟨op, f, n, b, m, c⟩, h1, h3, h4, h5, h6, h7⟩

theorem rBig_ok {w : World} {main : Tm} {v : V4} {qs : List Qu} {qa : Option Addr} {qn qc : Nat} (hv : v.is w main) (hq : QsAt w qs qa) (hql : qn = qs.length) (hqm : qn ≤ 9223372036854775807) :
    Calls Try.prog 27 #[.agg #[.int .i8 v.op, .int .i8 v.f, .int .u64 v.n, .slice v.b v.m v.c, .slice qa qn qc]] w (endW (fun r w' => r = .bool (bigS (main :: preds qs)) ∧ Chg NoS w w') (fun _ _ => False)) := by
  refine F27_calls v.op v.f v.n v.b v.m v.c qa qn qc ?_
  delta F27
  have hP := mine_alloc (Chg.refl NoS w) #[.int .i8 v.op, .int .i8 v.f, .int .u64 v.n, .slice v.b v.m v.c, .slice qa qn qc] 29
  generalize w.alloc (.cells #[.int .i8 v.op, .int .i8 v.f, .int .u64 v.n, .slice v.b v.m v.c, .slice qa qn qc] 29) = w1 at *
  have hbt : (4096 < lsize (main :: preds qs) ∨ 128 < ldepth (main :: preds qs)) → ∀ w', Chg NoS w w' → (Value.bool true = .bool (bigS (main :: preds qs)) ∧ Chg NoS w w') := fun h w' hc => ⟨by unfold bigS; rcases h with h | h <;> simp [h], hc⟩
  refine ⟨_, (mine_cell2 hP 0 0).trans rfl, _, (mine_cell2 hP 0 1).trans rfl, _, (mine_cell2 hP 0 2).trans rfl, _, _, _, (mine_cell2 hP 0 3).trans rfl, ?_⟩
  refine Calls.then (rSize_ok main _ _ _ _ _ _ w1 4096 (hv.keep hP.2.1) (by omega)) ?_
  rintro r w2 ⟨rfl, hc2⟩
  have hP2 := hP.keep hc2
  obtain ⟨m0, m1, m2, m3⟩ := min_facts (tsize main)
  have hl0 : lsize (main :: preds qs) = tsize main + lsize (preds qs) := by simp only [lsize]
  refine ⟨_, rfl, fun s w3 => ∃ k : Nat, s.2 = k ∧ k ≤ qn ∧ 0 ≤ s.1 ∧ s.1 ≤ 8193 ∧ (s.1 ≤ 4096 → s.1 = (tsize main + lsize (preds (qs.take k)) : Nat)) ∧ (4096 < s.1 → 4096 < lsize (main :: preds qs)) ∧ Mine w w3 w.heap.size #[.int .i8 v.op, .int .i8 v.f, .int .u64 v.n, .slice v.b v.m v.c, .slice qa qn qc] 29, fun s _ => (qn - s.2).toNat, ⟨(((min (tsize main) (4096 + 1) : Nat) : Int), 0), ⟨rfl, rfl, trivial⟩, 0, rfl, by omega, by dsimp only; omega, by dsimp only; omega, by dsimp only; intro h; rw [m2 (by rcases Nat.lt_or_ge 4096 (tsize main) with h' | h'; (have := m3 h'; omega); exact h')]; simp [preds, lsize], by dsimp only; intro h; rw [hl0]; rcases Nat.lt_or_ge 4096 (tsize main) with h' | h'; omega; (have := m2 h'; omega), hP2⟩, ?_⟩
  rintro ⟨x, i⟩ w3 ⟨k, hi, hk, hx0, hx1, hx2, hx3, hP3⟩ _
  dsimp only at hi hx0 hx1 hx2 hx3 ⊢
  subst hi
  refine ⟨_, _, _, (mine_cell hP3 4).trans rfl, ?_⟩
  by_cases hstep : (k : Int) < qn ∧ x ≤ 4096
  · rw [if_pos (by simpa using hstep.1), if_pos (by simpa using hstep.2)]
    have hkq : k < qs.length := by omega
    obtain ⟨A, u, rfl, q1, q2, q3, q4, hu⟩ := hq.tm (List.getElem?_eq_getElem hkq)
    have hc3 := hP3.2.1
    refine ⟨_, _, _, (mine_cell hP3 4).trans rfl, by omega, by omega, _, cell_keep q1 hc3, _, cell_keep q2 hc3, _, cell_keep q3 hc3, _, _, _, cell_keep q4 hc3, ?_⟩
    refine Calls.then (rSize_ok qs[k].2 _ _ _ _ _ _ w3 4096 (hu.keep hc3) (by omega)) ?_
    rintro r w4 ⟨rfl, hc4⟩
    have hst := lsize_preds_take hkq
    have hle := lsize_preds_le qs (k + 1)
    obtain ⟨k0, k1, k2, k3⟩ := min_facts (tsize qs[k].2)
    have e := hx2 hstep.2
    refine ⟨_, rfl, (x + ((min (tsize qs[k].2) (4096 + 1) : Nat) : Int), (k : Int) + 1), ⟨by rw [i64w _ (by omega) (by omega)], by rw [i64w _ (by omega) (by omega)], trivial⟩, ⟨k + 1, rfl, by omega, by dsimp only; omega, by dsimp only; omega, ?_, ?_, hP3.keep hc4⟩, by dsimp only; omega⟩
    · dsimp only
      intro h
      rw [hst]
      rcases Nat.lt_or_ge 4096 (tsize qs[k].2) with h' | h'
      · have := k3 h'; omega
      · have := k2 h'; omega
    · dsimp only
      intro h
      rcases Nat.lt_or_ge 4096 (tsize qs[k].2) with h' | h'
      · omega
      · have := k2 h'; omega
  · rw [ite2 (by simpa using hstep)]
    have hlast : x ≤ 4096 → k = qn := fun h => by
      rcases Classical.em ((k : Int) < qn) with h1 | h1
      · exact absurd ⟨h1, h⟩ hstep
      · omega
    refine ⟨fun _ w4 => lsize (main :: preds qs) ≤ 4096 ∧ tdepth main ≤ 128 ∧ Mine w w4 w.heap.size #[.int .i8 v.op, .int .i8 v.f, .int .u64 v.n, .slice v.b v.m v.c, .slice qa qn qc] 29, ?_, ?_⟩
    · rintro _ w4 ⟨hsz, hdm, hP4⟩ _
      refine ⟨fun s w5 => ∃ j : Nat, s = j ∧ j ≤ qn ∧ ldepth (preds (qs.take j)) ≤ 128 ∧ Mine w w5 w.heap.size #[.int .i8 v.op, .int .i8 v.f, .int .u64 v.n, .slice v.b v.m v.c, .slice qa qn qc] 29, fun s _ => (qn - s).toNat, ⟨0, ⟨rfl, trivial⟩, 0, rfl, by omega, by simp [preds, ldepth], hP4⟩, ?_⟩
      rintro s w5 ⟨j, rfl, hj, hdj, hP5⟩ _
      refine ⟨_, _, _, (mine_cell hP5 4).trans rfl, ?_⟩
      by_cases hlt : (j : Int) < qn
      · rw [if_pos (by simpa using hlt)]
        have hjq : j < qs.length := by omega
        obtain ⟨A, u, rfl, q1, q2, q3, q4, hu⟩ := hq.tm (List.getElem?_eq_getElem hjq)
        have hc5 := hP5.2.1
        refine ⟨_, _, _, (mine_cell hP5 4).trans rfl, by omega, by omega, _, cell_keep q1 hc5, _, cell_keep q2 hc5, _, cell_keep q3 hc5, _, _, _, cell_keep q4 hc5, ?_⟩
        refine Calls.then (rDeep_ok 128 qs[j].2 _ _ _ _ _ _ w5 (hu.keep hc5) (by omega)) ?_
        rintro r w6 ⟨rfl, hc6⟩
        refine ⟨_, rfl, ?_⟩
        have hmem := ldepth_mem hjq
        by_cases hd : 128 < tdepth qs[j].2
        · rw [if_pos (by simp; omega)]
          exact hbt (.inr (by simp only [ldepth]; omega)) _ (hP5.keep hc6).2.1
        · rw [if_neg (by simp; omega)]
          refine ⟨(j : Int) + 1, ⟨by rw [i64w _ (by omega) (by omega)], trivial⟩, ⟨j + 1, by omega, by omega, ?_, hP5.keep hc6⟩, by first | omega | (dsimp only; omega)⟩
          rw [ldepth_preds_take hjq]
          omega
      · rw [if_neg (by simpa using hlt)]
        have : j = qs.length := by omega
        rw [this, List.take_length] at hdj
        refine ⟨?_, hP5.2.1⟩
        have h1 : ¬ 4096 < lsize (main :: preds qs) := by omega
        have h2 : ¬ 128 < ldepth (main :: preds qs) := by simp only [ldepth]; omega
        unfold bigS
        simp [h1, h2]
    · by_cases hx : x ≤ 4096
      · rw [if_pos (by simp; omega)]
        refine ⟨_, (mine_cell2 hP3 0 0).trans rfl, _, (mine_cell2 hP3 0 1).trans rfl, _, (mine_cell2 hP3 0 2).trans rfl, _, _, _, (mine_cell2 hP3 0 3).trans rfl, ?_⟩
        refine Calls.then (rDeep_ok 128 main _ _ _ _ _ _ w3 (hv.keep hP3.2.1) (by omega)) ?_
        rintro r w4 ⟨rfl, hc4⟩
        refine ⟨_, rfl, ?_⟩
        have hkn : k = qs.length := by rw [hlast hx, hql]
        have e := hx2 hx
        rw [hkn, List.take_length] at e
        by_cases hd : 128 < tdepth main
        · rw [if_pos (by simp; omega)]
          exact hbt (.inr (by simp only [ldepth]; omega)) _ (hP3.keep hc4).2.1
        · rw [if_neg (by simp; omega)]
          exact ⟨(), trivial, by simp only [lsize]; omega, by omega, hP3.keep hc4⟩
      · rw [if_neg (by simp; omega)]
        exact hbt (.inl (hx3 (by omega))) _ hP3.2.1
/-- The predicate of no queries. -/
theorem qs_none (w : World) : QsAt w [] none := fun j q h => by simp at h
theorem rPred_ok {w : World} {t : Tm} {v : V4} (hv : v.is w t) :
    Calls Try.prog 12 #[.agg #[.int .i8 v.op, .int .i8 v.f, .int .u64 v.n, .slice v.b v.m v.c]] w (endW (fun r w' => r = .int .i64 (predS t) ∧ Chg NoS w w') (fun _ _ => False)) := by
  refine F12_calls v.op v.f v.n v.b v.m v.c ?_
  delta F12
  have hP := mine_alloc (Chg.refl NoS w) #[.int .i8 v.op, .int .i8 v.f, .int .u64 v.n, .slice v.b v.m v.c] 26
  generalize w.alloc (.cells #[.int .i8 v.op, .int .i8 v.f, .int .u64 v.n, .slice v.b v.m v.c] 26) = w1 at *
  refine ⟨_, (mine_cell hP 0).trans rfl, _, (mine_cell hP 1).trans rfl, _, (mine_cell hP 2).trans rfl, _, _, _, (mine_cell hP 3).trans rfl, ?_⟩
  refine Calls.then (rBig_ok (qs := []) (hv.keep hP.2.1) (qs_none _) rfl (by omega)) ?_
  rintro r w2 ⟨rfl, hc2⟩
  have hP2 := hP.keep hc2
  refine ⟨_, rfl, ?_⟩
  have e : bigS (t :: preds []) = bigS [t] := rfl
  rw [e]
  by_cases hb : bigS [t] = true
  · rw [if_pos hb]
    refine ⟨?_, hP2.2.1⟩
    unfold predS
    rw [if_pos hb]
  rw [if_neg hb]
  refine ⟨_, (mine_cell hP2 0).trans rfl, _, (mine_cell hP2 1).trans rfl, _, (mine_cell hP2 2).trans rfl, _, _, _, (mine_cell hP2 3).trans rfl, ?_⟩
  refine Calls.then (rRight_ok t true _ _ _ _ _ _ w2 (hv.keep hP2.2.1)) ?_
  rintro r w3 ⟨rfl, hc3⟩
  refine ⟨_, rfl, ?_⟩
  unfold predS
  rw [if_neg hb]
  by_cases hr : rightS t true = true
  · rw [if_neg (by simp [hr]), if_pos hr]
    exact ⟨rfl, hP2.2.1.trans hc3⟩
  · rw [if_pos (by simp [hr]), if_neg hr]
    exact ⟨rfl, hP2.2.1.trans hc3⟩
theorem Pred_ok {w : World} {t : Tm} {v : V4} (hv : v.is w t) :
    Calls Try.prog 11 #[.agg #[.int .i8 v.op, .int .i8 v.f, .int .u64 v.n, .slice v.b v.m v.c]] w (endW (fun r w' => r = .int .i64 (predS t) ∧ Chg NoS w w') (fun _ _ => False)) := by
  refine F11_calls v.op v.f v.n v.b v.m v.c ?_
  delta F11
  have hP := mine_alloc (Chg.refl NoS w) #[.int .i8 v.op, .int .i8 v.f, .int .u64 v.n, .slice v.b v.m v.c] 26
  generalize w.alloc (.cells #[.int .i8 v.op, .int .i8 v.f, .int .u64 v.n, .slice v.b v.m v.c] 26) = w1 at *
  refine ⟨_, (mine_cell hP 0).trans rfl, _, (mine_cell hP 1).trans rfl, _, (mine_cell hP 2).trans rfl, _, _, _, (mine_cell hP 3).trans rfl, ?_⟩
  have hb2 := blk_alloc w1 (.cells #[.int .i8 v.op, .int .i8 v.f, .int .u64 v.n, .slice v.b v.m v.c] 26)
  have hc2 := chg_alloc w1 (.cells #[.int .i8 v.op, .int .i8 v.f, .int .u64 v.n, .slice v.b v.m v.c] 26) NoS
  generalize w1.alloc (.cells #[.int .i8 v.op, .int .i8 v.f, .int .u64 v.n, .slice v.b v.m v.c] 26) = w2 at *
  have hP2 := hP.keep hc2
  have hrow : TmRow w2 [t] (some ⟨w1.heap.size, 0, none⟩) := terms_of_reads (vs := [v]) (reads_lit hb2) (.cons (hv.keep hP2.2.1) .nil)
  refine Calls.then (Big_ok (ts := [t]) rfl (by omega) hrow) ?_
  rintro r w3 ⟨rfl, hc3⟩
  have hP3 := hP2.keep hc3
  refine ⟨_, rfl, ?_⟩
  by_cases hb : bigS [t] = true
  · rw [if_pos hb]
    refine ⟨?_, hP3.2.1⟩
    unfold predS
    rw [if_pos hb]
  rw [if_neg hb]
  refine Calls.then (Right_ok t true _ w3 ⟨v.op, v.f, v.n, v.b, v.m, v.c, (mine_cell hP3 0).trans rfl, (mine_cell hP3 1).trans rfl, (mine_cell hP3 2).trans rfl, (mine_cell hP3 3).trans rfl, hv.keep hP3.2.1⟩) ?_
  rintro r w4 ⟨rfl, hc4⟩
  refine ⟨_, rfl, ?_⟩
  unfold predS
  rw [if_neg hb]
  by_cases hr : rightS t true = true
  · rw [if_neg (by simp [hr]), if_pos hr]
    exact ⟨rfl, hP3.2.1.trans hc4⟩
  · rw [if_pos (by simp [hr]), if_neg hr]
    exact ⟨rfl, hP3.2.1.trans hc4⟩
end Go.Proofs.Ytbpckcmejkcciaa.B
