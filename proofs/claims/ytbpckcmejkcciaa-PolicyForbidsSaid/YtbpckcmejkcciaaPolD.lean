/-
  Policies: the document's count and depth.
-/
import Derived.Test.YtbpckcmejkcciaaPolC
set_option linter.unusedVariables false
set_option linter.unusedSimpArgs false
namespace Go.Proofs.Ytbpckcmejkcciaa.B
open Go Go.Proofs Go.Proofs.YtbpckcmejkcciaaEng

/-- a parameter that is held in a variable of the call's own -/
theorem par_cell {w w' : World} {cs : Array Value} {t : TypeId} (hc : Chg NoS (w.alloc (.cells cs t)) w') (i : Nat) : w'.cell? (addK ⟨w.heap.size, 0, none⟩ i) = cs[i]? := by
  rw [addK_lit, Nat.zero_add, cell_blk (hc.blk (blk_alloc w _) (fun x => x))]
theorem rSize_ok : ∀ (t : Tm) (op f n : Int) (a : Option Addr) (m c : Nat) (w : World) (most : Nat), TVal w t op f n a m c → most ≤ 4096 →
    Calls Try.prog 39 #[.agg #[.int .i8 op, .int .i8 f, .int .u64 n, .slice a m c], .int .i64 most] w (endW (fun v w' => v = .int .i64 (min (tsize t) (most + 1) : Nat) ∧ Chg NoS w w') (fun _ _ => False)) := by
  intro t
  generalize hs : tsize t = sz
  induction sz using Nat.strongRecOn generalizing t with
  | _ sz ih =>
    intro op f n a m c w most hv hm
    subst hs
    obtain ⟨ks, rfl, hlen, _, hcm, _, hk⟩ := hv.parts
    refine F39_calls op f n a m c most ?_
    delta F39
    have hc0 := chg_alloc w (.cells #[.int .i8 op, .int .i8 f, .int .u64 n, .slice a m c] 26) NoS
    refine ⟨fun s w1 => ∃ j : Nat, s.2 = j ∧ j ≤ m ∧ s.1 = ((min (lsize (ks.take j) + 1) (most + 1) : Nat) : Int) ∧ Chg NoS (w.alloc (.cells #[.int .i8 op, .int .i8 f, .int .u64 n, .slice a m c] 26)) w1, fun s _ => (m - s.2).toNat, ⟨(1, 0), ⟨rfl, rfl, trivial⟩, 0, rfl, by omega, ?_, Chg.refl _ _⟩, ?_⟩
    · simp [lsize]
    rintro ⟨x, i⟩ w1 ⟨j, hi, hjm, hx, hc1⟩ _
    dsimp only at hi hx ⊢
    subst hi
    subst hx
    refine ⟨_, _, _, par_cell hc1 3, ?_⟩
    have hfin : ∀ q, q = lsize (ks.take j) → (most < q + 1 ∨ j = m) → (Value.int .i64 ((min (q + 1) (most + 1) : Nat) : Int) = .int .i64 (min (tsize (.mk op f n ks)) (most + 1) : Nat)) := fun q hq h => by
      have hle := lsize_take_le ks j
      simp only [tsize]
      congr 2
      rcases h with h | h
      · omega
      · rw [hq, List.take_of_length_le (by omega)]
    by_cases hlt : (j : Int) < m
    · rw [if_pos (by simpa using hlt)]
      by_cases hle : lsize (ks.take j) + 1 ≤ most
      · rw [if_pos (by simp; omega)]
        have hj : j < ks.length := by omega
        have hst := lsize_take hj
        obtain ⟨A, rfl, hA⟩ := hk j _ (List.getElem?_eq_getElem hj)
        obtain ⟨op', f', n', b, m', c', h0, h1, h2, h3, hv'⟩ := hA.keep (hc0.trans hc1)
        refine ⟨_, _, _, par_cell hc1 3, by omega, by omega, _, h0, _, h1, _, h2, _, _, _, h3, ?_⟩
        rw [i64w _ (by omega) (by omega), show (most : Int) - ((min (lsize (ks.take j) + 1) (most + 1) : Nat) : Int) = ((most - (lsize (ks.take j) + 1) : Nat) : Int) from by omega]
        refine Calls.then (ih (tsize ks[j]) (by have := tsize_kid (op := op) (f := f) (n := n) (List.getElem_mem hj); omega) ks[j] rfl _ _ _ _ _ _ _ _ hv' (by omega)) ?_
        rintro v w2 ⟨rfl, hc2⟩
        refine ⟨_, rfl, (((min (lsize (ks.take (j + 1)) + 1) (most + 1) : Nat) : Int), (j : Int) + 1), ⟨?_, by rw [i64w _ (by omega) (by omega)], trivial⟩, ⟨j + 1, by dsimp only; omega, by omega, rfl, hc1.trans hc2⟩, by dsimp only; omega⟩
        rw [i64w _ (by omega) (by omega), hst]
        congr 1
        omega
      · rw [if_neg (by simp; omega)]
        exact ⟨hfin _ rfl (by omega), hc0.trans hc1⟩
    · rw [if_neg (by simpa using hlt)]
      exact ⟨hfin _ rfl (by omega), hc0.trans hc1⟩

theorem rDeep_ok : ∀ (most : Nat) (t : Tm) (op f n : Int) (a : Option Addr) (m c : Nat) (w : World), TVal w t op f n a m c → most ≤ 128 →
    Calls Try.prog 40 #[.agg #[.int .i8 op, .int .i8 f, .int .u64 n, .slice a m c], .int .i64 most] w (endW (fun v w' => v = .int .i64 (min (tdepth t) (most + 1) : Nat) ∧ Chg NoS w w') (fun _ _ => False))
  | 0, t, op, f, n, a, m, c, w, hv, hm => by
    obtain ⟨ks, rfl, _⟩ := hv.parts
    refine F40_calls op f n a m c 0 ?_
    delta F40
    rw [if_pos (by decide)]
    refine ⟨?_, chg_alloc w _ NoS⟩
    simp only [tdepth]
    rw [show min (ldepth ks + 1) (0 + 1) = 1 from by omega]
    rfl
  | most + 1, t, op, f, n, a, m, c, w, hv, hm => by
    obtain ⟨ks, rfl, hlen, _, hcm, _, hk⟩ := hv.parts
    refine F40_calls op f n a m c _ ?_
    delta F40
    rw [if_neg (by simp)]
    have hc0 := chg_alloc w (.cells #[.int .i8 op, .int .i8 f, .int .u64 n, .slice a m c] 26) NoS
    refine ⟨fun s w1 => ∃ j : Nat, s.2 = j ∧ j ≤ m ∧ s.1 = ((min (ldepth (ks.take j)) (most + 1) : Nat) : Int) ∧ Chg NoS (w.alloc (.cells #[.int .i8 op, .int .i8 f, .int .u64 n, .slice a m c] 26)) w1, fun s _ => (m - s.2).toNat, ⟨(0, 0), ⟨rfl, rfl, trivial⟩, 0, rfl, by omega, by simp [ldepth], Chg.refl _ _⟩, ?_⟩
    rintro ⟨x, i⟩ w1 ⟨j, hi, hjm, hx, hc1⟩ _
    dsimp only at hi hx ⊢
    subst hi
    subst hx
    refine ⟨_, _, _, par_cell hc1 3, ?_⟩
    by_cases hlt : (j : Int) < m
    · rw [if_pos (by simpa using hlt)]
      have hj : j < ks.length := by omega
      have hst : ldepth (ks.take (j + 1)) = max (ldepth (ks.take j)) (tdepth ks[j]) := by
        rw [List.take_add_one, List.getElem?_eq_getElem hj, ldepth_append]
        simp [ldepth]
      obtain ⟨A, rfl, hA⟩ := hk j _ (List.getElem?_eq_getElem hj)
      obtain ⟨op', f', n', b, m', c', h0, h1, h2, h3, hv'⟩ := hA.keep (hc0.trans hc1)
      refine ⟨_, _, _, par_cell hc1 3, by omega, by omega, _, h0, _, h1, _, h2, _, _, _, h3, ?_⟩
      rw [i64w _ (by omega) (by omega), show ((most + 1 : Nat) : Int) - 1 = (most : Int) from by omega]
      refine Calls.then (rDeep_ok most ks[j] _ _ _ _ _ _ _ hv' (by omega)) ?_
      rintro v w2 ⟨rfl, hc2⟩
      refine ⟨_, rfl, ?_⟩
      have hmax : (Builtin.max_ #[3, 3] 3 #[.int .i64 ((min (ldepth (ks.take j)) (most + 1) : Nat) : Int), .int .i64 ((min (tdepth ks[j]) (most + 1) : Nat) : Int)]).run Try.prog w2 = .ok (.int .i64 ((min (ldepth (ks.take (j + 1))) (most + 1) : Nat) : Int)) w2 := by
        rw [run_max_int2]
        congr 2
        rw [hst]
        split <;> omega
      refine runV_of_ok hmax ?_
      exact ⟨_, rfl, (((min (ldepth (ks.take (j + 1))) (most + 1) : Nat) : Int), (j : Int) + 1), ⟨rfl, by rw [i64w _ (by omega) (by omega)], trivial⟩, ⟨j + 1, by dsimp only; omega, by omega, rfl, hc1.trans hc2⟩, by dsimp only; omega⟩
    · rw [if_neg (by simpa using hlt)]
      refine ⟨?_, hc0.trans hc1⟩
      rw [i64w _ (by omega) (by omega), List.take_of_length_le (by omega)]
      simp only [tdepth]
      congr 1
      omega
end Go.Proofs.Ytbpckcmejkcciaa.B
