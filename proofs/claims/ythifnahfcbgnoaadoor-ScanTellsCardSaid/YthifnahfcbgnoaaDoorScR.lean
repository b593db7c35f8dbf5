/-
  scan: the document's pairs, dotted.
-/
import Derived.Test.YthifnahfcbgnoaaDoorScQ
set_option maxRecDepth 100000
set_option linter.unusedVariables false
set_option linter.unusedSimpArgs false
namespace Go.Proofs.YthifnahfcbgnoaaDoor.B
open Go Go.Proofs Go.Proofs.YthifnahfcbgnoaaDoorEng Go.RowKit

def pval (t : List UInt8) (b m : Nat) : Nat → Nat
  | 0 => m
  | 1 => m * 16 + hv (g t b)
  | _ => (m * 16 + hv (g t b)) * 16 + hv (g t (b + 1))
theorem pval_zero (t : List UInt8) (b m : Nat) : pval t b m 0 = m := rfl
theorem pval_succ (t : List UInt8) (b m : Nat) : ∀ j, j < 2 → pval t b m (j + 1) = pval t b m j * 16 + hv (g t (b + j))
  | 0, _ => rfl
  | 1, _ => rfl
  | j + 2, h => by omega
theorem pval_lt {t : List UInt8} {b m : Nat} (hm : m < 1099511627776) : ∀ j, j ≤ 1 → (1 ≤ j → isHex (g t b) = true) → pval t b m j < 17592186044416
  | 0, _, _ => by rw [pval_zero]; omega
  | 1, _, h => by
    have := hv_lt (h (by omega))
    have e : pval t b m 1 = m * 16 + hv (g t b) := rfl
    rw [e]
    omega
  | j + 2, h, _ => by omega
theorem pval_two (t : List UInt8) (b m : Nat) : pval t b m 2 = m * 256 + (hv (g t b) * 16 + hv (g t (b + 1))) := by
  have e2 : pval t b m 2 = (m * 16 + hv (g t b)) * 16 + hv (g t (b + 1)) := rfl
  rw [e2]
  omega
theorem rpairs_ok (w : World) (t : List UInt8) (k : Nat) (hk : k ≤ t.length) (ht : t.length ≤ 65536) : Calls Tryd.prog 25 #[.string (bs t), .int .i64 (k : Int)] w (endW (fun v w' => v = rpairsV (pairsAt t k) ∧ w' = w) (fun _ _ => False)) := by
  refine F25_calls _ _ ?_
  delta F25
  refine ⟨fun s w' => ∃ i at_ m : Nat, s = ((at_ : Int), (m : Int), (i : Int)) ∧ i ≤ 6 ∧ at_ ≤ t.length ∧ m < 256 ^ i ∧ pr t i at_ m = pairsAt t k ∧ w' = w, fun s _ => (6 - s.2.2).toNat, ⟨((k : Int), 0, 0), ⟨rfl, rfl, rfl, trivial⟩, 0, k, 0, rfl, by omega, hk, by omega, rfl, rfl⟩, ?_⟩
  rintro _ w1 ⟨i, at_, m, rfl, hi, hat, hm, he, rfl⟩ _
  dsimp only
  rw [bs_size]
  by_cases hlt : i < 6
  · rw [if_pos (by simp; omega)]
    have hm48' : m < 1099511627776 := Nat.lt_of_lt_of_le hm (by
      have : 256 ^ i ≤ 256 ^ 5 := Nat.pow_le_pow_right (by omega) (by omega)
      omega)
    generalize hb : (if i = 0 then at_ else at_ + 1) = b
    have no : ¬ ((i = 0 ∨ isAt t at_ 58 = true) ∧ b + 2 ≤ t.length ∧ isHex (g t b) = true ∧ isHex (g t (b + 1)) = true) → Value.tuple #[.int .u64 0, .int .i64 0, .bool false] = rpairsV (pairsAt t k) ∧ w1 = w1 := fun hn => ⟨by rw [← he, pr_no hlt hb.symm hn]; rfl, rfl⟩
    refine ⟨fun s w' => s = (b : Int) ∧ (i = 0 ∨ isAt t at_ 58 = true) ∧ b ≤ t.length ∧ w' = w1, ?_, ?_⟩
    · rintro _ w2 ⟨rfl, hcol, hbl, rfl⟩ _
      refine ⟨fun s w' => ∃ j : Nat, s = (((b + j : Nat) : Int), (pval t b m j : Int), (j : Int)) ∧ j ≤ 2 ∧ (1 ≤ j → b < t.length ∧ isHex (g t b) = true) ∧ (2 ≤ j → b + 1 < t.length ∧ isHex (g t (b + 1)) = true) ∧ w' = w2, fun s _ => (2 - s.2.2).toNat, ⟨((b : Int), (m : Int), 0), ⟨rfl, rfl, rfl, trivial⟩, 0, rfl, by omega, fun h => by omega, fun h => by omega, rfl⟩, ?_⟩
      rintro _ w3 ⟨j, rfl, hj, h1, h2, rfl⟩ _
      dsimp only
      by_cases hj2 : j < 2
      · rw [if_pos (by simp; omega)]
        by_cases hl : b + j < t.length
        · rw [if_pos (by simp; omega)]
          refine ⟨by omega, by omega, ?_⟩
          rw [g_at]
          refine Calls.then (value_ok w3 _ (g_lt _ _)) ?_
          rintro v w4 ⟨rfl, rfl⟩
          refine ⟨_, rfl, ?_⟩
          by_cases hx : isHex (g t (b + j)) = true
          · rw [if_pos hx, if_neg (by simp)]
            refine ⟨by omega, by omega, by omega, ?_⟩
            refine Calls.then (value_ok w4 _ (g_lt _ _)) ?_
            rintro v w5 ⟨rfl, rfl⟩
            refine ⟨_, rfl, ?_⟩
            rw [if_pos hx]
            have hv16 := hv_lt hx
            have hpv := pval_lt (t := t) (b := b) hm48' j (by omega) (fun h => (h1 h).2)
            have hps := pval_succ t b m j hj2
            generalize pval t b m j = pj at hpv hps ⊢
            have e3 : IntKind.wrap .u64 ((pj : Int) * (2 : Int) ^ 4) = ((pj * 2 ^ 4 : Nat) : Int) := by rw [wrap_u64]; omega
            have e4 : IntKind.wrap .u64 ((hv (g t (b + j)) : Nat) : Int) = ((hv (g t (b + j)) : Nat) : Int) := by rw [wrap_u64]; omega
            rw [e3, e4, or_low (k := 4) (by omega) (by omega) (by omega), wrap_u64]
            refine ⟨(((b + (j + 1) : Nat) : Int), (pval t b m (j + 1) : Int), ((j + 1 : Nat) : Int)), ⟨by rw [i64w _ (by omega) (by omega)]; rfl, ?_, by rw [i64w _ (by omega) (by omega)]; rfl, trivial⟩, ⟨j + 1, rfl, by omega, fun _ => ?_, fun h => ?_, rfl⟩, by dsimp only; omega⟩
            · dsimp only
              rw [hps]
              congr 1
              omega
            · match j, hj2 with
              | 0, _ => exact ⟨hl, hx⟩
              | 1, _ => exact h1 (by omega)
            · match j, hj2 with
              | 0, _ => omega
              | 1, _ => exact ⟨hl, hx⟩
          · rw [if_neg hx, if_pos (by decide)]
            refine no fun hh => ?_
            match j, hj2 with
            | 0, _ => exact hx hh.2.2.1
            | 1, _ => exact hx hh.2.2.2
        · rw [if_neg (by simp; omega)]
          exact no fun hh => by have := hh.2.1; omega
      · rw [if_neg (by simp; omega)]
        have : j = 2 := by omega
        subst this
        have a1 := h1 (by omega)
        have a2 := h2 (by omega)
        refine ⟨(((b + 2 : Nat) : Int), (pval t b m 2 : Int), ((i + 1 : Nat) : Int)), ⟨rfl, rfl, by rw [i64w _ (by omega) (by omega)]; rfl, trivial⟩, ⟨i + 1, b + 2, pval t b m 2, rfl, by omega, by omega, ?_, ?_, rfl⟩, by dsimp only; omega⟩
        · have l1 := hv_lt a1.2
          have l2 := hv_lt a2.2
          rw [Nat.pow_succ, pval_two]
          omega
        · rw [← he, pr_go hlt hb.symm hcol (by omega) a1.2 a2.2]
          rw [pval_two]
    · by_cases hi0 : i = 0
      · rw [if_neg (by simp; omega)]
        rw [if_pos hi0] at hb
        subst hb
        exact ⟨(at_ : Int), ⟨rfl, trivial⟩, rfl, .inl hi0, hat, rfl⟩
      · rw [if_pos (by simp; omega)]
        rw [if_neg hi0] at hb
        subst hb
        by_cases hl : at_ < t.length
        · rw [if_pos (by simp; omega)]
          refine ⟨by omega, by omega, ?_⟩
          rw [g_at]
          by_cases hx : g t at_ = 58
          · rw [if_neg (by simp [hx])]
            exact ⟨((at_ + 1 : Nat) : Int), ⟨by rw [i64w _ (by omega) (by omega)]; rfl, trivial⟩, rfl, .inr (by simp [isAt, hl, hx]), by omega, rfl⟩
          · rw [if_pos (by simp; omega)]
            exact no fun hh => by rcases hh.1 with h | h; exact hi0 h; simp [isAt, hx] at h
        · rw [if_neg (by simp; omega)]
          exact no fun hh => by rcases hh.1 with h | h; exact hi0 h; simp [isAt, hl] at h
  · rw [if_neg (by simp; omega)]
    have : i = 6 := by omega
    subst this
    rw [pr_end] at he
    refine ⟨?_, rfl⟩
    rw [← he]
    rfl
end Go.Proofs.YthifnahfcbgnoaaDoor.B
