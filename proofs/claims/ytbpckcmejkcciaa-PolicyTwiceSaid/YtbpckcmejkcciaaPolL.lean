/-
  Policies: Check, by the program.
-/
import Derived.Test.YtbpckcmejkcciaaPolK
set_option linter.unusedVariables false
set_option linter.unusedSimpArgs false
namespace Go.Proofs.Ytbpckcmejkcciaa.B
open Go Go.Proofs Go.Proofs.YtbpckcmejkcciaaEng

/-- a query is copied into a variable of the call's own -/
theorem setQ {w wX : World} {g : Nat} {s : ByteArray} {v : V4} {K : World → Prop} (h : Mine w wX g #[.string { data := #[] }, .int .i8 0, .int .i8 0, .int .u64 0, .slice none 0 0] 40) (hK : ∀ w6, Mine w w6 g #[.string s, .int .i8 v.op, .int .i8 v.f, .int .u64 v.n, .slice v.b v.m v.c] 40 → K w6) :
    setW wX (addK ⟨g, 0, none⟩ 0) (.string s) fun w2 => setW w2 (addK ⟨g, 0, none⟩ 1) (.int .i8 v.op) fun w3 => setW w3 (addK ⟨g, 0, none⟩ 2) (.int .i8 v.f) fun w4 => setW w4 (addK ⟨g, 0, none⟩ 3) (.int .u64 v.n) fun w5 => setW w5 (addK ⟨g, 0, none⟩ 4) (.slice v.b v.m v.c) K := by
  simp only [addK_lit, Nat.zero_add]
  refine Mine.set h (by simp) rfl ?_
  intro w1 h1
  refine Mine.set h1 (by simp) rfl ?_
  intro w2 h2
  refine Mine.set h2 (by simp) rfl ?_
  intro w3 h3
  refine Mine.set h3 (by simp) rfl ?_
  intro w4 h4
  refine Mine.set h4 (by simp) rfl ?_
  intro w5 h5
  exact hK w5 h5
theorem mine_cell {w w6 : World} {g : Nat} {cs : Array Value} {t : TypeId} (h : Mine w w6 g cs t) (i : Nat) : w6.cell? (addK ⟨g, 0, none⟩ i) = cs[i]? := by rw [addK_lit, Nat.zero_add]; exact h.cell i
theorem mine_cell2 {w w6 : World} {g : Nat} {cs : Array Value} {t : TypeId} (h : Mine w w6 g cs t) (k i : Nat) : w6.cell? (addK (addK ⟨g, 0, none⟩ k) i) = cs[k + i]? := by rw [addK_addK]; exact mine_cell h (k + i)
/-- What a query's cells are. -/
theorem QsAt.cells {w : World} {qs : List Qu} {a : Option Addr} (h : QsAt w qs a) {j : Nat} {q : Qu} (hj : qs[j]? = some q) : ∃ A, ∃ v : V4, a = some A ∧ w.cell? (addK (addK A (j * 5)) 0) = some (.string q.1) ∧ w.cell? (addK (addK A (j * 5)) 1) = some (.int .i8 v.op) ∧ w.cell? (addK (addK A (j * 5)) 2) = some (.int .i8 v.f) ∧ w.cell? (addK (addK A (j * 5)) 3) = some (.int .u64 v.n) ∧ w.cell? (addK (addK A (j * 5)) 4) = some (.slice v.b v.m v.c) ∧ v.is w q.2 := by
  obtain ⟨A, h1, h2, op, f, n, b, m, c, h3, h4, h5, h6, h7⟩ := h j q hj
  refine ⟨A, ⟨op, f, n, b, m, c⟩, h1, h2, ?_, ?_, ?_, ?_, h7⟩
  · rw [addK_zero] at h3; exact h3
  · rw [addK_addK (addK A (j * 5)) 1 1] at h4; exact h4
  · rw [addK_addK (addK A (j * 5)) 1 2] at h5; exact h5
  · rw [addK_addK (addK A (j * 5)) 1 3] at h6; exact h6
/-- a term in a variable of the call's own -/
theorem tmp_of_mine {w w6 : World} {g k : Nat} {cs : Array Value} {t : TypeId} {v : V4} {tm : Tm} (h : Mine w w6 g cs t) (h0 : cs[k]? = some (.int .i8 v.op)) (h1 : cs[k + 1]? = some (.int .i8 v.f)) (h2 : cs[k + 2]? = some (.int .u64 v.n)) (h3 : cs[k + 3]? = some (.slice v.b v.m v.c)) (hv : v.is w6 tm) : TmP w6 tm (addK ⟨g, 0, none⟩ k) :=
  ⟨v.op, v.f, v.n, v.b, v.m, v.c, by rw [mine_cell2 h k 0]; exact h0, by rw [mine_cell2 h k 1]; exact h1, by rw [mine_cell2 h k 2]; exact h2, by rw [mine_cell2 h k 3]; exact h3, hv⟩
theorem take_snoc {α : Type} {l : List α} {j : Nat} (hj : j < l.length) : l.take (j + 1) = l.take j ++ [l[j]] := by
  rw [List.take_add_one, List.getElem?_eq_getElem hj]; rfl
theorem mk_map (w : World) : (Instr.makeMap 51 none).run Try.prog w = .ok (.map (some w.heap.size)) (w.alloc (.map #[] 0)) := rfl
theorem preds_take (qs : List Qu) (j : Nat) : (preds qs).take j = preds (qs.take j) := by simp [preds, List.map_take]

theorem Check_ok {w : World} {main : Tm} {v : V4} {qs : List Qu} {qa : Option Addr} {qn qc : Nat} (hv : v.is w main) (hq : QsAt w qs qa) (hql : qn = qs.length) :
    Calls Try.prog 9 #[.agg #[.int .i8 v.op, .int .i8 v.f, .int .u64 v.n, .slice v.b v.m v.c, .slice qa qn qc]] w (endW (fun r w' => r = .int .i64 (checkS main qs) ∧ Chg NoS w w') (fun _ _ => False)) := by
  refine F9_calls v.op v.f v.n v.b v.m v.c qa qn qc ?_
  delta F9
  have hP := mine_alloc (Chg.refl NoS w) #[.int .i8 v.op, .int .i8 v.f, .int .u64 v.n, .slice v.b v.m v.c, .slice qa qn qc] 29
  have hgP : w.heap.size = w.heap.size := rfl
  generalize w.alloc (.cells #[.int .i8 v.op, .int .i8 v.f, .int .u64 v.n, .slice v.b v.m v.c, .slice qa qn qc] 29) = w1 at *
  refine ⟨_, _, _, (mine_cell hP 4).trans rfl, ?_⟩
  by_cases h32 : 32 < qn
  · rw [if_pos (by simp; omega)]
    refine ⟨?_, hP.2.1⟩
    unfold checkS
    rw [if_pos (by omega)]
  rw [if_neg (by simp; omega)]
  have hcheck : checkS main qs = if bigS (main :: preds qs) = true then 200 else if rightS main false = true ∧ qAll qs qs.length = true then 0 else 170 := by
    unfold checkS
    rw [if_neg (by omega)]
  refine ⟨_, (mine_cell2 hP 0 0).trans rfl, _, (mine_cell2 hP 0 1).trans rfl, _, (mine_cell2 hP 0 2).trans rfl, _, _, _, (mine_cell2 hP 0 3).trans rfl, ?_⟩
  have hL := mine_alloc hP.2.1 #[.int .i8 v.op, .int .i8 v.f, .int .u64 v.n, .slice v.b v.m v.c] 26
  have hP2 := hP.keep (chg_alloc w1 (.cells #[.int .i8 v.op, .int .i8 v.f, .int .u64 v.n, .slice v.b v.m v.c] 26) NoS)
  have hlt := lt_of_blk hP.1
  have hs2 := size_alloc w1 (.cells #[.int .i8 v.op, .int .i8 v.f, .int .u64 v.n, .slice v.b v.m v.c] 26)
  have hc12 := chg_alloc w1 (.cells #[.int .i8 v.op, .int .i8 v.f, .int .u64 v.n, .slice v.b v.m v.c] 26) NoS
  generalize hw2 : w1.alloc (.cells #[.int .i8 v.op, .int .i8 v.f, .int .u64 v.n, .slice v.b v.m v.c] 26) = w2 at *
  refine ⟨_, _, _, (mine_cell hP2 4).trans rfl, ?_⟩
  have hown : w2.ownsRow w1.heap.size 26 4 (.slice (some ⟨w1.heap.size, 0, none⟩) 1 1) 1 (flat [v]) := ⟨rfl, .inr ⟨w1.heap.size, 1, _, rfl, Nat.le_refl _, hL.1, Nat.le_refl _, by simp [maxLen], rfl, rfl⟩⟩
  -- all terms are gathered
  refine ⟨fun s w3 => ∃ (j : Nat) (us : List V4), s.2.2.2 = j ∧ j ≤ qn ∧ s.2.1 = j + 1 ∧ us.length = j + 1 ∧ w3.ownsRow w1.heap.size 26 4 (.slice s.1 (j + 1) s.2.2.1) (j + 1) (flat us) ∧ VS w us (main :: preds (qs.take j)) ∧ w1.heap.size ≤ w3.heap.size ∧ Mine w w3 w.heap.size #[.int .i8 v.op, .int .i8 v.f, .int .u64 v.n, .slice v.b v.m v.c, .slice qa qn qc] 29, fun s _ => (qn - s.2.2.2).toNat,
    ⟨(some ⟨w1.heap.size, 0, none⟩, 1, 1, 0), ⟨rfl, rfl, trivial⟩, 0, [v], rfl, by omega, rfl, rfl, hown, .cons hv .nil, hc12.size, hP2⟩, ?_⟩
  rintro ⟨la, ln, lc, i⟩ w3 ⟨j, us, hi, hj, hln, hul, ho3, hV3, hb3, hP3⟩ _
  dsimp only at hi hln ho3 ⊢
  subst hi
  subst hln
  have hc3 := hP3.2.1
  have hlt3 := lt_of_blk hP3.1
  by_cases hlt4 : (j : Int) < qn
  · rw [if_pos (by simpa using hlt4)]
    have hjq : j < qs.length := by omega
    obtain ⟨A, u, rfl, q0, q1, q2, q3, q4, hu⟩ := hq.cells (List.getElem?_eq_getElem hjq)
    refine ⟨by omega, by omega, _, cell_keep q0 hc3, _, cell_keep q1 hc3, _, cell_keep q2 hc3, _, cell_keep q3 hc3, _, _, _, cell_keep q4 hc3, ?_⟩
    refine setQ (mine_alloc (Chg.refl NoS w3) _ _) ?_
    intro w4 hM4
    refine ⟨_, (mine_cell2 hM4 1 0).trans rfl, _, (mine_cell2 hM4 1 1).trans rfl, _, (mine_cell2 hM4 1 2).trans rfl, _, _, _, (mine_cell2 hM4 1 3).trans rfl, ?_⟩
    have hc4 := hM4.2.1
    have hb5 := blk_alloc w4 (.cells #[.int .i8 u.op, .int .i8 u.f, .int .u64 u.n, .slice u.b u.m u.c] 26)
    have hc5 := chg_alloc w4 (.cells #[.int .i8 u.op, .int .i8 u.f, .int .u64 u.n, .slice u.b u.m u.c] 26) NoS
    generalize w4.alloc (.cells #[.int .i8 u.op, .int .i8 u.f, .int .u64 u.n, .slice u.b u.m u.c] 26) = w5 at *
    have hc35 := hc4.trans hc5
    refine terms_append (base := w1.heap.size) (us := [u]) (own_of_chg ho3 hc35 (fun _ _ x => x)) rfl (reads_lit hb5) (fun e => by cases e) (by omega) (Nat.le_trans hb3 hc35.size) ?_
    intro a6 c6 w6 ho6 hc6 hb6
    have hP6 : Mine w w6 w.heap.size #[.int .i8 v.op, .int .i8 v.f, .int .u64 v.n, .slice v.b v.m v.c, .slice (some A) qn qc] 29 := by
      have hP5 := hP3.keep hc35
      refine ⟨hc6.blk hP5.1 (fun e => ?_), hP5.2.1.trans2 hc6 (fun k hk e => ?_), Nat.le_refl _⟩
      · have := (own_lt' ho3 (k := w.heap.size) e).2; omega
      · have := (own_lt' ho3 (k := k) e).2; omega
    refine ⟨_, _, _, rfl, (a6, j + 1 + 1, c6, (j : Int) + 1), ⟨rfl, by rw [i64w _ (by omega) (by omega)], trivial⟩, ⟨j + 1, us ++ [u], by dsimp only; omega, by omega, rfl, by simp [hul], ho6, ?_, Nat.le_trans hb3 (Nat.le_trans hc35.size hc6.size), hP6⟩, by dsimp only; omega⟩
    rw [take_snoc hjq]
    have : main :: preds (qs.take j ++ [qs[j]]) = (main :: preds (qs.take j)) ++ [qs[j].2] := by unfold preds; rw [List.map_append]; rfl
    rw [this]
    exact hV3.append (.cons hu .nil)
  rw [if_neg (by simpa using hlt4)]
  have hjn : j = qs.length := by omega
  rw [hjn, List.take_length] at hV3
  have hrow := terms_of_reads (own_reads' ho3) (hV3.keep hc3)
  have hlen : j + 1 = (main :: preds qs).length := by simp [preds]; omega
  refine Calls.then (Big_ok hlen (by omega) hrow) ?_
  rintro r w4 ⟨rfl, hc4⟩
  refine ⟨_, rfl, ?_⟩
  have hP4 := hP3.keep hc4
  by_cases hbig : bigS (main :: preds qs) = true
  · rw [if_pos hbig]
    refine ⟨?_, hP4.2.1⟩
    rw [hcheck, if_pos hbig]
  rw [if_neg hbig]
  have hcheck2 : checkS main qs = if rightS main false = true ∧ qAll qs qs.length = true then 0 else 170 := by rw [hcheck, if_neg hbig]
  refine Calls.then (Right_ok main false _ w4 (tmp_of_mine hP4 rfl rfl rfl rfl (hv.keep hP4.2.1))) ?_
  rintro r w5 ⟨rfl, hc5⟩
  refine ⟨_, rfl, ?_⟩
  have hP5 := hP4.keep hc5
  by_cases hmr : rightS main false = true
  rotate_left
  · rw [if_pos (by simp [hmr])]
    refine ⟨?_, hP5.2.1⟩
    rw [hcheck2, if_neg (fun h => hmr h.1)]
  rw [if_neg (by simp [hmr])]
  refine runV_of_ok (mk_map w5) ?_
  have hm6 : MapSt (w5.alloc (.map #[] 0)) w5.heap.size [] := ⟨#[], 0, blk_alloc w5 _, rfl⟩
  have hc6 := chg_alloc w5 (.map #[] 0) NoS
  have hs6 := size_alloc w5 (.map #[] 0)
  have hlt5 := lt_of_blk hP5.1
  have hP6 := hP5.keep hc6
  generalize w5.alloc (.map #[] 0) = w6 at *
  refine ⟨_, rfl, _, _, _, (mine_cell hP6 4).trans rfl, ?_⟩
  have hno : ∀ w', Chg NoS w w' → ∀ k, qAll qs (k + 1) = false → k < qs.length → (Value.int .i64 170 = .int .i64 (checkS main qs) ∧ Chg NoS w w') := fun w' hc k hk hkl => ⟨by rw [hcheck2, if_neg (fun h => by rw [qAll_false hk _ hkl] at h; cases h.2)], hc⟩
  refine ⟨fun s w7 => ∃ k : Nat, s = k ∧ k ≤ qn ∧ qAll qs k = true ∧ MapSt w7 w5.heap.size (names (qs.take k)) ∧ Chg NoS w w7, fun s _ => (qn - s).toNat, ⟨0, ⟨rfl, trivial⟩, 0, rfl, by omega, rfl, hm6, hP6.2.1⟩, ?_⟩
  rintro s w7 ⟨k, rfl, hk, hqk, hm7, hc7⟩ _
  by_cases hltk : (k : Int) < qn
  · rw [if_pos (by simpa using hltk)]
    have hkq : k < qs.length := by omega
    have hget := qAll_get hkq
    obtain ⟨A, u, rfl, q0, q1, q2, q3, q4, hu⟩ := hq.cells (List.getElem?_eq_getElem hkq)
    refine ⟨by omega, by omega, _, cell_keep q0 hc7, _, cell_keep q1 hc7, _, cell_keep q2 hc7, _, cell_keep q3 hc7, _, _, _, cell_keep q4 hc7, ?_⟩
    refine setQ (mine_alloc (Chg.refl NoS w7) _ _) ?_
    intro w8 hM8
    have hc8 := hM8.2.1
    have hm8 := hm7.keep hc8 (fun x => x)
    have hne8 : w5.heap.size ≠ w7.heap.size := by
      obtain ⟨es, cl, hb, _⟩ := hm7
      have := lt_of_blk hb
      omega
    have hw5 : w.heap.size ≤ w5.heap.size := hP5.2.1.size
    refine ⟨_, (mine_cell hM8 0).trans rfl, ?_⟩
    have cmap : ∀ {x y : World}, Chg NoS w x → Chg (OnlyB w5.heap.size) x y → Chg NoS w y := fun h k => h.trans2 k (fun i hi e => by have : i = w5.heap.size := e; omega)
    by_cases hin : qs[k].1 ∈ names (qs.take k)
    · have hfail : qAll qs (k + 1) = false := by rw [hget]; simp [hin]
      refine runV_of_ok (look_old hm8 hin) ?_
      refine ⟨_, rfl, ?_⟩
      rw [i64w _ (by omega) (by omega)]
      refine upd_old hm8 hin ?_
      intro w9 hlook hc9
      have hb9 : w9.heap[w7.heap.size]? = some (.cells #[.string qs[k].1, .int .i8 u.op, .int .i8 u.f, .int .u64 u.n, .slice u.b u.m u.c] 40 (0, 0)) := hc9.blk hM8.1 (fun e => hne8 e.symm)
      have cell9 : ∀ {y : World}, Chg NoS w9 y → ∀ i, y.cell? (addK ⟨w7.heap.size, 0, none⟩ i) = (#[.string qs[k].1, .int .i8 u.op, .int .i8 u.f, .int .u64 u.n, .slice u.b u.m u.c] : Array Value)[i]? := fun h i => by
        rw [addK_lit, Nat.zero_add, cell_blk (h.blk hb9 (fun x => x))]
      have hcw9 := cmap (hc7.trans hc8) hc9
      refine ⟨_, (cell9 (Chg.refl _ _) 0).trans rfl, ?_⟩
      refine Calls.then (Name_ok w9 _) ?_
      rintro r w10 ⟨rfl, hc10⟩
      refine ⟨_, rfl, ?_⟩
      by_cases hnm : nameS qs[k].1 = true
      · rw [if_pos (by simp [hnm])]
        refine ⟨_, (cell9 hc10 0).trans rfl, ?_⟩
        refine runV_of_ok (hlook w10 (fun o ho => hc10.blk ho (fun x => x))) ?_
        refine ⟨_, rfl, ?_⟩
        rw [if_neg (by decide)]
        exact hno _ (hcw9.trans hc10) k hfail hkq
      · rw [if_neg (by simp [hnm])]
        exact hno _ (hcw9.trans hc10) k hfail hkq
    · refine runV_of_ok (look_new hm8 hin) ?_
      refine ⟨_, rfl, ?_⟩
      rw [i64w _ (by omega) (by omega)]
      refine upd_new hm8 hin ?_
      intro w9 hm9 hc9
      have hb9 : w9.heap[w7.heap.size]? = some (.cells #[.string qs[k].1, .int .i8 u.op, .int .i8 u.f, .int .u64 u.n, .slice u.b u.m u.c] 40 (0, 0)) := hc9.blk hM8.1 (fun e => hne8 e.symm)
      have cell9 : ∀ {y : World}, Chg NoS w9 y → ∀ i, y.cell? (addK ⟨w7.heap.size, 0, none⟩ i) = (#[.string qs[k].1, .int .i8 u.op, .int .i8 u.f, .int .u64 u.n, .slice u.b u.m u.c] : Array Value)[i]? := fun h i => by
        rw [addK_lit, Nat.zero_add, cell_blk (h.blk hb9 (fun x => x))]
      have hcw9 := cmap (hc7.trans hc8) hc9
      refine ⟨_, (cell9 (Chg.refl _ _) 0).trans rfl, ?_⟩
      refine Calls.then (Name_ok w9 _) ?_
      rintro r w10 ⟨rfl, hc10⟩
      refine ⟨_, rfl, ?_⟩
      by_cases hnm : nameS qs[k].1 = true
      · rw [if_pos (by simp [hnm])]
        refine ⟨_, (cell9 hc10 0).trans rfl, ?_⟩
        have hm10 := hm9.keep hc10 (fun x => x)
        refine runV_of_ok (look_old hm10 (List.mem_append_right _ (List.mem_singleton.2 rfl))) ?_
        refine ⟨_, rfl, ?_⟩
        rw [if_pos (by decide)]
        have hcw10 := hcw9.trans hc10
        have htm : TmP w10 qs[k].2 (addK ⟨w7.heap.size, 0, none⟩ 1) := ⟨u.op, u.f, u.n, u.b, u.m, u.c, by rw [addK_addK]; exact (cell9 hc10 1).trans rfl, by rw [addK_addK]; exact (cell9 hc10 2).trans rfl, by rw [addK_addK]; exact (cell9 hc10 3).trans rfl, by rw [addK_addK]; exact (cell9 hc10 4).trans rfl, hu.keep hcw10⟩
        refine Calls.then (Right_ok _ true _ w10 htm) ?_
        rintro r w11 ⟨rfl, hc11⟩
        refine ⟨_, rfl, ?_⟩
        by_cases hr : rightS qs[k].2 true = true
        · rw [if_neg (by simp [hr])]
          refine ⟨(k : Int) + 1, ⟨by rw [i64w _ (by omega) (by omega)], trivial⟩, ⟨k + 1, by omega, by omega, by rw [hget, hqk, hnm, hr]; simp [hin], ?_, hcw10.trans hc11⟩, by first | omega | (dsimp only; omega)⟩
          rw [take_snoc hkq]
          have : names (qs.take k ++ [qs[k]]) = names (qs.take k) ++ [qs[k].1] := by unfold names; rw [List.map_append]; rfl
          rw [this]
          exact hm10.keep hc11 (fun x => x)
        · rw [if_pos (by simp [hr])]
          exact hno _ (hcw10.trans hc11) k (by rw [hget]; simp [hr]) hkq
      · rw [if_neg (by simp [hnm])]
        exact hno _ (hcw9.trans hc10) k (by rw [hget]; simp [hnm]) hkq
  · rw [if_neg (by simpa using hltk)]
    have : k = qs.length := by omega
    subst this
    exact ⟨by rw [hcheck2, if_pos ⟨hmr, hqk⟩], hc7⟩
end Go.Proofs.Ytbpckcmejkcciaa.B
