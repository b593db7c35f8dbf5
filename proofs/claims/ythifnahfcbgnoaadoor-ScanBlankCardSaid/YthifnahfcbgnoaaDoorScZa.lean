/-
  scan: a word that stands in another text with a blank behind it is the same word.
-/
import Derived.Test.YthifnahfcbgnoaaDoorScO
set_option maxRecDepth 100000
set_option linter.unusedVariables false
set_option linter.unusedSimpArgs false
namespace Go.Proofs.YthifnahfcbgnoaaDoor.B
open Go Go.Proofs Go.Proofs.YthifnahfcbgnoaaDoorEng Go.RowKit

/-- the same bytes stand at two places -/
def Eqv (t : List UInt8) (k : Nat) (u : List UInt8) (p L : Nat) : Prop := k + L ≤ t.length ∧ p + L ≤ u.length ∧ ∀ i, i < L → g u (p + i) = g t (k + i)
theorem Eqv.symm {t u : List UInt8} {k p L : Nat} (h : Eqv t k u p L) : Eqv u p t k L := ⟨h.2.1, h.1, fun i hi => (h.2.2 i hi).symm⟩
theorem Eqv.is {t u : List UInt8} {k p L i c : Nat} (h : Eqv t k u p L) (hi : i < L) : isAt u (p + i) c = isAt t (k + i) c := by
  have h1 : p + i < u.length := by have := h.2.1; omega
  have h2 : k + i < t.length := by have := h.1; omega
  unfold isAt
  rw [h.2.2 i hi]
  simp [h1, h2]
theorem cut_drop {t : List UInt8} {a b : Nat} (h : a < b) (hb : b ≤ t.length) : cut t a b = UInt8.ofNat (g t a) :: cut t (a + 1) b := by
  have hl : a < t.length := by omega
  unfold cut
  rw [List.drop_eq_getElem_cons hl, show b - a = (b - (a + 1)) + 1 by omega, List.take_succ_cons]
  congr 1
  unfold g
  simp [List.getD, List.getElem?_eq_getElem hl]
theorem cut_same {t u : List UInt8} {k p L : Nat} (h : Eqv t k u p L) : ∀ (d x y : Nat), y - x = d → y ≤ L → cut u (p + x) (p + y) = cut t (k + x) (k + y)
  | 0, x, y, hd, hy => by
    unfold cut
    rw [show p + y - (p + x) = 0 by omega, show k + y - (k + x) = 0 by omega]
    simp
  | d + 1, x, y, hd, hy => by
    have h1 := h.1
    have h2 := h.2.1
    rw [cut_drop (show p + x < p + y by omega) (by omega), cut_drop (show k + x < k + y by omega) (by omega), h.2.2 x (by omega)]
    rw [show p + x + 1 = p + (x + 1) by omega, show k + x + 1 = k + (x + 1) by omega, cut_same h d (x + 1) y (by omega) hy]
theorem pr_cond {t : List UInt8} {i at_ n : Nat} {z : Nat × Nat} (hi : i < 6) (h : pr t i at_ n = some z) : (i = 0 ∨ isAt t at_ 58 = true) ∧ (if i = 0 then at_ else at_ + 1) + 2 ≤ t.length ∧ isHex (g t (if i = 0 then at_ else at_ + 1)) = true ∧ isHex (g t ((if i = 0 then at_ else at_ + 1) + 1)) = true := by
  by_cases hc : (i = 0 ∨ isAt t at_ 58 = true) ∧ (if i = 0 then at_ else at_ + 1) + 2 ≤ t.length ∧ isHex (g t (if i = 0 then at_ else at_ + 1)) = true ∧ isHex (g t ((if i = 0 then at_ else at_ + 1) + 1)) = true
  · exact hc
  · rw [pr_no hi rfl hc] at h
    cases h
theorem pr_same {t u : List UInt8} {k p L : Nat} (h : Eqv t k u p L) : ∀ (d i x n m y : Nat), 6 - i = d → x ≤ L → y ≤ L → pr t i (k + x) n = some (m, k + y) → pr u i (p + x) n = some (m, p + y) := by
  intro d
  induction d with
  | zero =>
    intro i x n m y hd hx hy hp
    rw [pr, if_neg (by omega)] at hp ⊢
    injection hp with hp
    injection hp with h1 h2
    rw [h1, show x = y by omega]
  | succ d ih =>
    intro i x n m y hd hx hy hp
    have hi : i < 6 := by omega
    have hc := pr_cond hi hp
    obtain ⟨x', hx', hxx⟩ : ∃ x', (if i = 0 then k + x else k + x + 1) = k + x' ∧ (if i = 0 then p + x else p + x + 1) = p + x' ∧ x' = (if i = 0 then x else x + 1) := by
      by_cases h0 : i = 0
      · exact ⟨x, by simp [h0], by simp [h0], by simp [h0]⟩
      · exact ⟨x + 1, by simp [h0]; omega, by simp [h0]; omega, by simp [h0]⟩
    have hge := hc
    rw [hx'] at hc
    rw [pr_go hi hx'.symm hc.1 hc.2.1 hc.2.2.1 hc.2.2.2] at hp
    have hle := pr_le hp (by omega)
    have e0 := h.2.2 x' (by omega)
    have e1 := h.2.2 (x' + 1) (by omega)
    rw [pr_go hi hxx.1.symm (b := p + x') ?_ ?_ ?_ ?_]
    · rw [e0, show p + x' + 1 = p + (x' + 1) by omega, e1]
      exact ih (i + 1) (x' + 2) _ m y (by omega) (by omega) hy hp
    · by_cases h0 : i = 0
      · exact .inl h0
      · rw [if_neg h0] at hxx
        rw [h.is (by omega)]
        exact hc.1
    · have := h.2.1; omega
    · rw [e0]; exact hc.2.2.1
    · rw [show p + x' + 1 = p + (x' + 1) by omega, e1]; exact hc.2.2.2
/-- behind the word stands a blank -/
def Ag (t : List UInt8) (k : Nat) (u : List UInt8) (p L : Nat) : Prop := Eqv t k u p L ∧ p + L < u.length ∧ g u (p + L) = 32
theorem pr_stop {u : List UInt8} {q : Nat} (hq : g u q = 32) : ∀ (d i at_ n m e : Nat), 6 - i = d → at_ ≤ q → pr u i at_ n = some (m, e) → e ≤ q := by
  intro d
  induction d with
  | zero =>
    intro i at_ n m e hd ha hp
    rw [pr, if_neg (by omega)] at hp
    injection hp with hp
    injection hp with h1 h2
    omega
  | succ d ih =>
    intro i at_ n m e hd ha hp
    have hi : i < 6 := by omega
    have hc := pr_cond hi hp
    generalize hb : (if i = 0 then at_ else at_ + 1) = b at hc
    rw [pr_go hi hb.symm hc.1 hc.2.1 hc.2.2.1 hc.2.2.2] at hp
    have n32 : isHex 32 = false := rfl
    have b0 : b ≠ q := fun e => by rw [e, hq] at hc; simp [n32] at hc
    have b1 : b + 1 ≠ q := fun e => by rw [e, hq] at hc; simp [n32] at hc
    have hbq : b ≤ q := by
      by_cases h0 : i = 0
      · rw [if_pos h0] at hb; omega
      · rw [if_neg h0] at hb
        have h58 := hc.1.resolve_left h0
        have : at_ ≠ q := fun e => by
          rw [e] at h58
          simp [isAt, hq] at h58
        omega
    exact ih (i + 1) (b + 2) _ m e (by omega) (by omega) hp
theorem pairs_same {t u : List UInt8} {k p L : Nat} (h : Ag t k u p L) : (∀ m e, pairsAt t k = some (m, e) → e ≤ k + L → pairsAt u p = some (m, p + (e - k))) ∧ (pairsAt t k = none → pairsAt u p = none) := by
  constructor
  · intro m e hp he
    have hle := pr_le hp (by have := h.1.1; omega)
    have := pr_same h.1 6 0 0 0 m (e - k) rfl (by omega) (by omega) (by rw [Nat.add_zero, show k + (e - k) = e by omega]; exact hp)
    exact this
  · intro hn
    cases hu : pairsAt u p with
    | none => rfl
    | some z =>
      obtain ⟨m, e⟩ := z
      have h1 := pr_stop h.2.2 6 0 p 0 m e rfl (by omega) hu
      have h2 := pr_le hu (by have := h.2.1; omega)
      have := pr_same h.1.symm 6 0 0 0 m (e - p) rfl (by omega) (by omega) (by rw [Nat.add_zero, show p + (e - p) = e by omega]; exact hu)
      rw [Nat.add_zero] at this
      unfold pairsAt at hn
      rw [hn] at this
      cases this
theorem span_same {t u : List UInt8} {k p L : Nat} {q : Nat → Bool} (h : Ag t k u p L) (hq : q 32 = false) : ∀ (d x : Nat), L - x = d → x ≤ L → span q t (k + x) ≤ k + L → span q u (p + x) = p + (span q t (k + x) - k) := by
  intro d
  induction d with
  | zero =>
    intro x hd hx hs
    obtain rfl : x = L := by omega
    have := (span_le q t (k + x)).1
    rw [span_no (by rw [h.2.2, hq]; simp)]
    omega
  | succ d ih =>
    intro x hd hx hs
    have e0 := h.1.2.2 x (by omega)
    have l1 := h.1.1
    have l2 := h.1.2.1
    by_cases hc : q (g t (k + x)) = true
    · rw [span_go (by omega) hc] at hs ⊢
      rw [span_go (by omega) (by rw [e0]; exact hc)]
      exact ih (x + 1) (by omega) (by omega) hs
    · rw [span_no (t := t) (fun hh => hc hh.2), span_no (t := u) (fun hh => hc (by rw [← e0]; exact hh.2))]
      omega
theorem closed_same {t u : List UInt8} {k p L kd m n : Nat} (h : Ag t k u p L) (hc : closedAt t (k + L) m = .ok kd (k + L) n) : closedAt u (p + L) m = .ok kd (p + L) n := by
  obtain ⟨rfl, _, rfl⟩ := closed_ok hc
  unfold closedAt
  rw [h.2.2, if_neg (by simp [show isAl 32 = false from rfl])]
theorem dots_same {t u : List UInt8} {k p L : Nat} (h : Ag t k u p L) : ∀ (d i x m kd n : Nat), 4 - i = d → x ≤ L → dots t i (k + x) m = .ok kd (k + L) n → dots u i (p + x) m = .ok kd (p + L) n := by
  intro d
  induction d with
  | zero =>
    intro i x m kd n hd hx hp
    rw [dots, if_neg (by omega)] at hp ⊢
    have hj := (closed_ok hp).2.1
    obtain rfl : x = L := by omega
    exact closed_same h hp
  | succ d ih =>
    intro i x m kd n hd hx hp
    have hi : i < 4 := by omega
    have l1 := h.1.1
    have l2 := h.1.2.1
    have hle := dots_le hp (by omega)
    have hxL : x < L := by omega
    by_cases hc : i = 0 ∨ isAt t (k + x) 46 = true
    · have hc' : i = 0 ∨ isAt u (p + x) 46 = true := by rw [h.1.is hxL]; exact hc
      obtain ⟨b, hb1, hb2, hb⟩ : ∃ b, (if i = 0 then k + x else k + x + 1) = k + b ∧ (if i = 0 then p + x else p + x + 1) = p + b ∧ x ≤ b ∧ b ≤ x + 1 := by
        by_cases h0 : i = 0
        · exact ⟨x, by simp [h0], by simp [h0], by omega⟩
        · exact ⟨x + 1, by simp [h0]; omega, by simp [h0]; omega, by omega⟩
      have hsp := span_le isDig t (k + b)
      by_cases hn : cut t (k + b) (span isDig t (k + b)) ≠ [] ∧ vals 10 (cut t (k + b) (span isDig t (k + b))) ≤ 255 ∧ ¬ (k + b + 1 < span isDig t (k + b) ∧ isAt t (k + b) 48 = true)
      · rw [dots_go hi hb1.symm rfl hc hn] at hp
        have hle2 := dots_le hp (hsp.2 (by omega))
        have es := span_same h (q := isDig) rfl (L - b) b rfl (by omega) (by omega)
        have ecut : cut u (p + b) (span isDig u (p + b)) = cut t (k + b) (span isDig t (k + b)) := by
          rw [es]
          have := cut_same h.1 _ b (span isDig t (k + b) - k) rfl (by omega)
          rw [this]
          congr 1
          omega
        have hpos := cut_pos hn.1
        rw [dots_go (t := u) hi hb2.symm rfl hc' (by
          rw [ecut, es, h.1.is (by omega)]
          refine ⟨hn.1, hn.2.1, fun hh => hn.2.2 ⟨by omega, hh.2⟩⟩)]
        rw [ecut, es]
        exact ih (i + 1) _ _ kd n (by omega) (by omega) (by rw [show k + (span isDig t (k + b) - k) = span isDig t (k + b) by omega]; exact hp)
      · rw [dots, if_pos hi, if_pos hc] at hp
        dsimp only at hp
        rw [hb1, if_neg hn] at hp
        cases hp
    · rw [dots, if_pos hi, if_neg hc] at hp
      cases hp
theorem num_same {t u : List UInt8} {k p L kd n : Nat} (h : Ag t k u p L) (hL : 0 < L) (hp : numAt t k = .ok kd (k + L) n) : numAt u p = .ok kd (p + L) n := by
  have l1 := h.1.1
  have l2 := h.1.2.1
  obtain ⟨s1, s2⟩ := pairs_same h
  unfold numAt at hp ⊢
  cases hpr : pairsAt t k with
  | some z =>
    obtain ⟨m, e⟩ := z
    rw [hpr] at hp
    dsimp only at hp
    have he := (closed_ok hp).2.1
    subst he
    rw [s1 m _ hpr (by omega)]
    dsimp only
    rw [show p + (k + L - k) = p + L by omega]
    exact closed_same h hp
  | none =>
    rw [hpr] at hp
    rw [s2 hpr]
    dsimp only at hp ⊢
    have e0 := h.1.is (i := 0) (c := 48) hL
    rw [Nat.add_zero, Nat.add_zero] at e0
    have e0' := h.1.2.2 0 hL
    rw [Nat.add_zero, Nat.add_zero] at e0'
    by_cases hx : isAt t k 48 = true ∧ isAt t (k + 1) 120 = true
    · rw [if_pos hx] at hp
      unfold hexNum at hp
      split at hp
      · rename_i hn
        have he := (closed_ok hp).2.1
        have hpos := cut_pos hn.1
        have hL2 : 2 < L := by omega
        rw [if_pos ⟨by rw [e0]; exact hx.1, by rw [h.1.is (by omega)]; exact hx.2⟩]
        have es := span_same h (q := isHex) rfl (L - 2) 2 rfl (by omega) (by omega)
        have ecut : cut u (p + 2) (span isHex u (p + 2)) = cut t (k + 2) (span isHex t (k + 2)) := by
          rw [es, cut_same h.1 _ 2 (span isHex t (k + 2) - k) rfl (by omega)]
          congr 1
          omega
        unfold hexNum
        rw [ecut, es, if_pos ⟨hn.1, hn.2.1, by omega⟩]
        rw [← he] at hp ⊢
        rw [show p + (k + L - k) = p + L by omega]
        exact closed_same h hp
      · cases hp
    · rw [if_neg hx] at hp
      rw [if_neg (fun hh => hx ⟨by rw [← e0]; exact hh.1, by
        by_cases h1 : 1 < L
        · rw [← h.1.is h1]; exact hh.2
        · obtain rfl : L = 1 := by omega
          have := hh.2
          simp [isAt, h.2.2] at this⟩)]
      by_cases hd : isAt t (span isDig t k) 46 = true
      · rw [if_pos hd] at hp
        have hge : span isDig t k < k + L := by
          have hc : (0 : Nat) = 0 ∨ isAt t k 46 = true := .inl rfl
          by_cases hn : cut t k (span isDig t k) ≠ [] ∧ vals 10 (cut t k (span isDig t k)) ≤ 255 ∧ ¬ (k + 1 < span isDig t k ∧ isAt t k 48 = true)
          · rw [dots_go (by omega) (by simp) rfl hc hn] at hp
            have := dots_le hp ((span_le isDig t k).2 (by omega))
            omega
          · rw [dots, if_pos (by omega), if_pos hc] at hp
            dsimp only at hp
            rw [if_pos rfl, if_neg hn] at hp
            cases hp
        have es := span_same h (q := isDig) rfl L 0 rfl (by omega) (by rw [Nat.add_zero]; omega)
        rw [Nat.add_zero, Nat.add_zero] at es
        have hsp := (span_le isDig t k).1
        rw [es, h.1.is (by omega), show k + (span isDig t k - k) = span isDig t k by omega, if_pos hd]
        exact dots_same h 4 0 0 0 kd n rfl (by omega) hp
      · rw [if_neg hd] at hp
        unfold decNum at hp
        split at hp
        · rename_i hn
          split at hp
          · cases hp
          · rename_i hz
            have he := (closed_ok hp).2.1
            have es := span_same h (q := isDig) rfl L 0 rfl (by omega) (by rw [Nat.add_zero]; omega)
            rw [Nat.add_zero, Nat.add_zero] at es
            have ecut : cut u p (span isDig u p) = cut t k (span isDig t k) := by
              have := cut_same h.1 _ 0 (span isDig t k - k) rfl (by omega)
              rw [Nat.add_zero, Nat.add_zero] at this
              rw [es, this]
              congr 1
              omega
            have eL : p + (span isDig t k - k) = p + L := by omega
            rw [if_neg (by rw [es, eL]; simp [isAt, h.2.2])]
            unfold decNum
            rw [ecut, es, eL, if_pos hn, if_neg (by rw [e0]; exact fun hh => hz ⟨by omega, hh.2⟩)]
            rw [← he] at hp ⊢
            exact closed_same h hp
        · cases hp
theorem one_same {t u : List UInt8} {k p L kd n : Nat} (h : Ag t k u p L) (hL : 0 < L) (hp : oneAt t k = .ok kd (k + L) n) : oneAt u p = .ok kd (p + L) n := by
  have l1 := h.1.1
  have l2 := h.1.2.1
  obtain ⟨s1, s2⟩ := pairs_same h
  have e0 := h.1.2.2 0 hL
  rw [Nat.add_zero, Nat.add_zero] at e0
  unfold oneAt at hp ⊢
  split at hp
  · rename_i hc
    rw [if_pos]
    · exact num_same h hL hp
    · rw [e0]
      rcases hc with hc | hc
      · left
        have hle : numAt t k = .ok kd (k + L) n := hp
        unfold numAt at hle
        cases hpr : pairsAt t k with
        | none => rw [hpr] at hc; cases hc
        | some z =>
          obtain ⟨m, e⟩ := z
          rw [hpr] at hle
          dsimp only at hle
          rw [s1 m e hpr (by have := (closed_ok hle).2.1; omega)]
          rfl
      · exact .inr hc
  · rename_i hc
    have hpn : pairsAt t k = none := by
      cases hpr : pairsAt t k with
      | none => rfl
      | some z => exact absurd (.inl (by rw [hpr]; rfl)) hc
    rw [if_neg (by rw [s2 hpn, e0]; exact fun hh => hc (.inr (hh.resolve_left (by simp))))]
    rw [e0]
    split at hp
    · rename_i hl
      split at hp
      · cases hp
      · rename_i h32
        injection hp with h1 h2 h3
        have es := span_same h (q := isAl) rfl L 0 rfl (by omega) (by rw [Nat.add_zero]; omega)
        rw [Nat.add_zero, Nat.add_zero] at es
        rw [if_pos hl, es, if_neg (by omega), h1, h3, show p + (span isAl t k - k) = p + L by omega]
    · rename_i hl
      rw [if_neg hl]
      split at hp
      · rename_i h58
        split at hp
        · rename_i h61
          injection hp with h1 h2 h3
          rw [if_pos h58, if_pos (by rw [h.1.is (by omega)]; exact h61), h1, h3, show p + 2 = p + L by omega]
        · cases hp
      · rename_i h58
        rw [if_neg h58]
        split at hp
        · rename_i hs
          injection hp with h1 h2 h3
          rw [if_pos hs, h1, h3, show p + 1 = p + L by omega]
        · cases hp
end Go.Proofs.YthifnahfcbgnoaaDoor.B
