import Derived.Test.YtpolbdakhfcilaaGreatDoorPaQ
/-
  scan: a word that stands in another text, with a blank or the end somewhere behind it, is the same word.
-/
set_option maxRecDepth 100000
set_option linter.unusedVariables false
set_option linter.unusedSimpArgs false
namespace Go.Proofs.YtpolbdakhfcilaaGreatDoor.B
open Go Go.Proofs Go.Proofs.YtpolbdakhfcilaaGreatDoorEng Go.RowKit

/-- the same bytes stand at two places -/
def Eqv (t : List UInt8) (k : Nat) (u : List UInt8) (p L : Nat) : Prop := k + L ≤ t.length ∧ p + L ≤ u.length ∧ ∀ i, i < L → g u (p + i) = g t (k + i)
theorem Eqv.symm {t u : List UInt8} {k p L : Nat} (h : Eqv t k u p L) : Eqv u p t k L := ⟨h.2.1, h.1, fun i hi => (h.2.2 i hi).symm⟩
theorem Eqv.is {t u : List UInt8} {k p L i c : Nat} (h : Eqv t k u p L) (hi : i < L) : isAt u (p + i) c = isAt t (k + i) c := by
  have h1 : p + i < u.length := by have := h.2.1; omega
  have h2 : k + i < t.length := by have := h.1; omega
  unfold isAt
  rw [h.2.2 i hi]
  simp [h1, h2]
theorem cut_drop {t : List UInt8} {a b : Nat} (h : a < b) (hb : b ≤ t.length) : cut t a b = UInt8.ofNat (g t a) :: cut t (a + 1) b := by
  have hl : a < t.length := by omega
  unfold cut
  rw [List.drop_eq_getElem_cons hl, show b - a = (b - (a + 1)) + 1 by omega, List.take_succ_cons]
  congr 1
  unfold g
  simp [List.getD, List.getElem?_eq_getElem hl]
theorem cut_same {t u : List UInt8} {k p L : Nat} (h : Eqv t k u p L) : ∀ (d x y : Nat), y - x = d → y ≤ L → cut u (p + x) (p + y) = cut t (k + x) (k + y)
  | 0, x, y, hd, hy => by
    unfold cut
    rw [show p + y - (p + x) = 0 by omega, show k + y - (k + x) = 0 by omega]
    simp
  | d + 1, x, y, hd, hy => by
    have h1 := h.1
    have h2 := h.2.1
    rw [cut_drop (show p + x < p + y by omega) (by omega), cut_drop (show k + x < k + y by omega) (by omega), h.2.2 x (by omega)]
    rw [show p + x + 1 = p + (x + 1) by omega, show k + x + 1 = k + (x + 1) by omega, cut_same h d (x + 1) y (by omega) hy]
theorem pr_cond {t : List UInt8} {i at_ n : Nat} {z : Nat × Nat} (hi : i < 6) (h : pr t i at_ n = some z) : (i = 0 ∨ isAt t at_ 58 = true) ∧ (if i = 0 then at_ else at_ + 1) + 2 ≤ t.length ∧ isHex (g t (if i = 0 then at_ else at_ + 1)) = true ∧ isHex (g t ((if i = 0 then at_ else at_ + 1) + 1)) = true := by
  by_cases hc : (i = 0 ∨ isAt t at_ 58 = true) ∧ (if i = 0 then at_ else at_ + 1) + 2 ≤ t.length ∧ isHex (g t (if i = 0 then at_ else at_ + 1)) = true ∧ isHex (g t ((if i = 0 then at_ else at_ + 1) + 1)) = true
  · exact hc
  · rw [pr_no hi rfl hc] at h
    cases h
theorem pr_same {t u : List UInt8} {k p L : Nat} (h : Eqv t k u p L) : ∀ (d i x n m y : Nat), 6 - i = d → x ≤ L → y ≤ L → pr t i (k + x) n = some (m, k + y) → pr u i (p + x) n = some (m, p + y) := by
  intro d
  induction d with
  | zero =>
    intro i x n m y hd hx hy hp
    rw [pr, if_neg (by omega)] at hp ⊢
    injection hp with hp
    injection hp with h1 h2
    rw [h1, show x = y by omega]
  | succ d ih =>
    intro i x n m y hd hx hy hp
    have hi : i < 6 := by omega
    have hc := pr_cond hi hp
    obtain ⟨x', hx', hxx⟩ : ∃ x', (if i = 0 then k + x else k + x + 1) = k + x' ∧ (if i = 0 then p + x else p + x + 1) = p + x' ∧ x' = (if i = 0 then x else x + 1) := by
      by_cases h0 : i = 0
      · exact ⟨x, by simp [h0], by simp [h0], by simp [h0]⟩
      · exact ⟨x + 1, by simp [h0]; omega, by simp [h0]; omega, by simp [h0]⟩
    have hge := hc
    rw [hx'] at hc
    rw [pr_go hi hx'.symm hc.1 hc.2.1 hc.2.2.1 hc.2.2.2] at hp
    have hle := pr_le hp (by omega)
    have e0 := h.2.2 x' (by omega)
    have e1 := h.2.2 (x' + 1) (by omega)
    rw [pr_go hi hxx.1.symm (b := p + x') ?_ ?_ ?_ ?_]
    · rw [e0, show p + x' + 1 = p + (x' + 1) by omega, e1]
      exact ih (i + 1) (x' + 2) _ m y (by omega) (by omega) hy hp
    · by_cases h0 : i = 0
      · exact .inl h0
      · rw [if_neg h0] at hxx
        rw [h.is (by omega)]
        exact hc.1
    · have := h.2.1; omega
    · rw [e0]; exact hc.2.2.1
    · rw [show p + x' + 1 = p + (x' + 1) by omega, e1]; exact hc.2.2.2
def blankc (c : Nat) : Prop := c = 32 ∨ c = 9 ∨ c = 10 ∨ c = 13
def Stp (u : List UInt8) (p : Nat) : Prop := ¬ p < u.length ∨ blankc (g u p)
/-- the same bytes, then a blank or the end -/
def Ag (t : List UInt8) (k : Nat) (u : List UInt8) (p M : Nat) : Prop := Eqv t k u p M ∧ Stp u (p + M)
theorem Stp.not {u : List UInt8} {p : Nat} (h : Stp u p) {q : Nat → Bool} (hq : ∀ c, blankc c → q c = false) : ¬ (p < u.length ∧ q (g u p) = true) := by
  rintro ⟨h1, h2⟩
  rcases h with h | h
  · exact h h1
  · rw [hq _ h] at h2; cases h2
theorem Stp.is {u : List UInt8} {p c : Nat} (h : Stp u p) (hc : ¬ blankc c) : isAt u p c = false := by
  unfold isAt
  refine decide_eq_false ?_
  rintro ⟨h1, h2⟩
  rcases h with h | h
  · exact h h1
  · rw [h2] at h; exact hc h
theorem hex_blank : ∀ c, blankc c → isHex c = false := by
  rintro c (rfl | rfl | rfl | rfl) <;> rfl
theorem dig_blank : ∀ c, blankc c → isDig c = false := by
  rintro c (rfl | rfl | rfl | rfl) <;> rfl
theorem al_blank : ∀ c, blankc c → isAl c = false := by
  rintro c (rfl | rfl | rfl | rfl) <;> rfl
theorem nb (c : Nat) (h : ¬ (c = 32 ∨ c = 9 ∨ c = 10 ∨ c = 13)) : ¬ blankc c := h
theorem pr_stop {u : List UInt8} {q : Nat} (hq : Stp u q) : ∀ (d i at_ n m e : Nat), 6 - i = d → at_ ≤ q → pr u i at_ n = some (m, e) → e ≤ q := by
  intro d
  induction d with
  | zero =>
    intro i at_ n m e hd ha hp
    rw [pr, if_neg (by omega)] at hp
    injection hp with hp
    injection hp with h1 h2
    omega
  | succ d ih =>
    intro i at_ n m e hd ha hp
    have hi : i < 6 := by omega
    have hc := pr_cond hi hp
    generalize hb : (if i = 0 then at_ else at_ + 1) = b at hc
    rw [pr_go hi hb.symm hc.1 hc.2.1 hc.2.2.1 hc.2.2.2] at hp
    have b0 : b ≠ q := fun e => by
      subst e
      exact hq.not hex_blank ⟨by omega, hc.2.2.1⟩
    have b1 : b + 1 ≠ q := fun e => by
      subst e
      exact hq.not hex_blank ⟨by omega, hc.2.2.2⟩
    have hbq : b ≤ q := by
      by_cases h0 : i = 0
      · rw [if_pos h0] at hb; omega
      · rw [if_neg h0] at hb
        have h58 := hc.1.resolve_left h0
        have : at_ ≠ q := fun e => by
          rw [e, hq.is (nb 58 (by decide))] at h58
          cases h58
        omega
    exact ih (i + 1) (b + 2) _ m e (by omega) (by omega) hp
theorem pairs_same {t u : List UInt8} {k p M : Nat} (h : Ag t k u p M) : (∀ m e, pairsAt t k = some (m, e) → e ≤ k + M → pairsAt u p = some (m, p + (e - k))) ∧ (pairsAt t k = none → pairsAt u p = none) := by
  have h11 := h.1.1
  have h12 := h.1.2.1
  constructor
  · intro m e hp he
    have hle := pr_le hp (by omega)
    exact pr_same h.1 6 0 0 0 m (e - k) rfl (by omega) (by omega) (by rw [Nat.add_zero, show k + (e - k) = e by omega]; exact hp)
  · intro hn
    cases hu : pairsAt u p with
    | none => rfl
    | some z =>
      obtain ⟨m, e⟩ := z
      have h1 := pr_stop h.2 6 0 p 0 m e rfl (by omega) hu
      have h2 := pr_le hu (by omega)
      have := pr_same h.1.symm 6 0 0 0 m (e - p) rfl (by omega) (by omega) (by rw [Nat.add_zero, show p + (e - p) = e by omega]; exact hu)
      rw [Nat.add_zero] at this
      unfold pairsAt at hn
      rw [hn] at this
      cases this
theorem span_same {t u : List UInt8} {k p M : Nat} {q : Nat → Bool} (h : Ag t k u p M) (hq : ∀ c, blankc c → q c = false) : ∀ (d x : Nat), M - x = d → x ≤ M → span q t (k + x) ≤ k + M → span q u (p + x) = p + (span q t (k + x) - k) := by
  intro d
  induction d with
  | zero =>
    intro x hd hx hs
    obtain rfl : x = M := by omega
    have := (span_le q t (k + x)).1
    rw [span_no (h.2.not hq)]
    omega
  | succ d ih =>
    intro x hd hx hs
    have e0 := h.1.2.2 x (by omega)
    have l1 := h.1.1
    have l2 := h.1.2.1
    by_cases hc : q (g t (k + x)) = true
    · rw [span_go (by omega) hc] at hs ⊢
      rw [span_go (by omega) (by rw [e0]; exact hc)]
      exact ih (x + 1) (by omega) (by omega) hs
    · rw [span_no (t := t) (fun hh => hc hh.2), span_no (t := u) (fun hh => hc (by rw [← e0]; exact hh.2))]
      omega
theorem closed_same {t u : List UInt8} {k p M L kd m n : Nat} (h : Ag t k u p M) (hL : L ≤ M) (hc : closedAt t (k + L) m = .ok kd (k + L) n) : closedAt u (p + L) m = .ok kd (p + L) n := by
  have hc2 := hc
  obtain ⟨rfl, _, rfl⟩ := closed_ok hc
  have l1 := h.1.1
  unfold closedAt at hc2 ⊢
  rw [if_neg]
  rintro ⟨h1, h2⟩
  rcases Nat.lt_or_ge L M with hlt | hge
  · rw [h.1.2.2 L hlt] at h2
    rw [if_pos ⟨by omega, h2⟩] at hc2
    cases hc2
  · have : L = M := by omega
    subst this
    exact h.2.not al_blank ⟨h1, h2⟩
theorem is_same {t u : List UInt8} {k p M x c : Nat} (h : Ag t k u p M) (hx : x < M) : isAt u (p + x) c = isAt t (k + x) c := h.1.is hx
theorem dots_same {t u : List UInt8} {k p M L : Nat} (h : Ag t k u p M) (hL : L ≤ M) : ∀ (d i x m kd n : Nat), 4 - i = d → x ≤ L → dots t i (k + x) m = .ok kd (k + L) n → dots u i (p + x) m = .ok kd (p + L) n := by
  intro d
  induction d with
  | zero =>
    intro i x m kd n hd hx hp
    rw [dots, if_neg (by omega)] at hp ⊢
    have hj := (closed_ok hp).2.1
    obtain rfl : x = L := by omega
    exact closed_same h hL hp
  | succ d ih =>
    intro i x m kd n hd hx hp
    have hi : i < 4 := by omega
    have l1 := h.1.1
    have l2 := h.1.2.1
    have hle := dots_le hp (by omega)
    have hxL : x < L := by omega
    by_cases hc : i = 0 ∨ isAt t (k + x) 46 = true
    · have hc' : i = 0 ∨ isAt u (p + x) 46 = true := by rw [is_same h (by omega)]; exact hc
      obtain ⟨b, hb1, hb2, hb⟩ : ∃ b, (if i = 0 then k + x else k + x + 1) = k + b ∧ (if i = 0 then p + x else p + x + 1) = p + b ∧ x ≤ b ∧ b ≤ x + 1 := by
        by_cases h0 : i = 0
        · exact ⟨x, by simp [h0], by simp [h0], by omega⟩
        · exact ⟨x + 1, by simp [h0]; omega, by simp [h0]; omega, by omega⟩
      have hsp := span_le isDig t (k + b)
      by_cases hn : cut t (k + b) (span isDig t (k + b)) ≠ [] ∧ vals 10 (cut t (k + b) (span isDig t (k + b))) ≤ 255 ∧ ¬ (k + b + 1 < span isDig t (k + b) ∧ isAt t (k + b) 48 = true)
      · rw [dots_go hi hb1.symm rfl hc hn] at hp
        have hle2 := dots_le hp (hsp.2 (by omega))
        have es := span_same h (q := isDig) dig_blank (M - b) b rfl (by omega) (by omega)
        have ecut : cut u (p + b) (span isDig u (p + b)) = cut t (k + b) (span isDig t (k + b)) := by
          rw [es, cut_same h.1 _ b (span isDig t (k + b) - k) rfl (by omega)]
          congr 1
          omega
        have hpos := cut_pos hn.1
        rw [dots_go (t := u) hi hb2.symm rfl hc' (by
          rw [ecut, es, is_same h (by omega)]
          refine ⟨hn.1, hn.2.1, fun hh => hn.2.2 ⟨by omega, hh.2⟩⟩)]
        rw [ecut, es]
        exact ih (i + 1) _ _ kd n (by omega) (by omega) (by rw [show k + (span isDig t (k + b) - k) = span isDig t (k + b) by omega]; exact hp)
      · rw [dots, if_pos hi, if_pos hc] at hp
        dsimp only at hp
        rw [hb1, if_neg hn] at hp
        cases hp
    · rw [dots, if_pos hi, if_neg hc] at hp
      cases hp
theorem num_same {t u : List UInt8} {k p M L kd n : Nat} (h : Ag t k u p M) (hL : 0 < L) (hM : L ≤ M) (hp : numAt t k = .ok kd (k + L) n) : numAt u p = .ok kd (p + L) n := by
  have l1 := h.1.1
  have l2 := h.1.2.1
  obtain ⟨s1, s2⟩ := pairs_same h
  unfold numAt at hp ⊢
  cases hpr : pairsAt t k with
  | some z =>
    obtain ⟨m, e⟩ := z
    rw [hpr] at hp
    dsimp only at hp
    have he := (closed_ok hp).2.1
    subst he
    rw [s1 m _ hpr (by omega)]
    dsimp only
    rw [show p + (k + L - k) = p + L by omega]
    exact closed_same h hM hp
  | none =>
    rw [hpr] at hp
    rw [s2 hpr]
    dsimp only at hp ⊢
    have e0 := is_same (x := 0) (c := 48) h (by omega)
    rw [Nat.add_zero, Nat.add_zero] at e0
    by_cases hx : isAt t k 48 = true ∧ isAt t (k + 1) 120 = true
    · rw [if_pos hx] at hp
      unfold hexNum at hp
      split at hp
      · rename_i hn
        have he := (closed_ok hp).2.1
        have hpos := cut_pos hn.1
        rw [if_pos ⟨by rw [e0]; exact hx.1, by rw [is_same h (by omega)]; exact hx.2⟩]
        have es := span_same h (q := isHex) hex_blank (M - 2) 2 rfl (by omega) (by omega)
        have ecut : cut u (p + 2) (span isHex u (p + 2)) = cut t (k + 2) (span isHex t (k + 2)) := by
          rw [es, cut_same h.1 _ 2 (span isHex t (k + 2) - k) rfl (by omega)]
          congr 1
          omega
        unfold hexNum
        rw [ecut, es, if_pos ⟨hn.1, hn.2.1, by omega⟩]
        rw [← he] at hp ⊢
        rw [show p + (k + L - k) = p + L by omega]
        exact closed_same h hM hp
      · cases hp
    · rw [if_neg hx] at hp
      rw [if_neg (fun hh => hx ⟨by rw [← e0]; exact hh.1, by
        by_cases h1 : 1 < M
        · rw [← is_same h h1]; exact hh.2
        · obtain rfl : M = 1 := by omega
          have := hh.2
          rw [h.2.is (nb 120 (by decide))] at this
          cases this⟩)]
      by_cases hd : isAt t (span isDig t k) 46 = true
      · rw [if_pos hd] at hp
        have hge : span isDig t k < k + L := by
          have hc : (0 : Nat) = 0 ∨ isAt t k 46 = true := .inl rfl
          by_cases hn : cut t k (span isDig t k) ≠ [] ∧ vals 10 (cut t k (span isDig t k)) ≤ 255 ∧ ¬ (k + 1 < span isDig t k ∧ isAt t k 48 = true)
          · rw [dots_go (by omega) (by simp) rfl hc hn] at hp
            have := dots_le hp ((span_le isDig t k).2 (by omega))
            omega
          · rw [dots, if_pos (by omega), if_pos hc] at hp
            dsimp only at hp
            rw [if_pos rfl, if_neg hn] at hp
            cases hp
        have es := span_same h (q := isDig) dig_blank M 0 rfl (by omega) (by rw [Nat.add_zero]; omega)
        rw [Nat.add_zero, Nat.add_zero] at es
        have hsp := (span_le isDig t k).1
        rw [es, is_same h (by omega), show k + (span isDig t k - k) = span isDig t k by omega, if_pos hd]
        exact dots_same h hM 4 0 0 0 kd n rfl (by omega) hp
      · rw [if_neg hd] at hp
        unfold decNum at hp
        split at hp
        · rename_i hn
          split at hp
          · cases hp
          · rename_i hz
            have he := (closed_ok hp).2.1
            have es := span_same h (q := isDig) dig_blank M 0 rfl (by omega) (by rw [Nat.add_zero]; omega)
            rw [Nat.add_zero, Nat.add_zero] at es
            have ecut : cut u p (span isDig u p) = cut t k (span isDig t k) := by
              have := cut_same h.1 _ 0 (span isDig t k - k) rfl (by omega)
              rw [Nat.add_zero, Nat.add_zero] at this
              rw [es, this]
              congr 1
              omega
            have eL : p + (span isDig t k - k) = p + L := by omega
            have hno : ¬ isAt u (p + L) 46 = true := by
              rcases Nat.lt_or_ge L M with hlt | hge
              · rw [is_same h hlt, he]; exact hd
              · obtain rfl : L = M := by omega
                rw [h.2.is (nb 46 (by decide))]
                simp
            rw [if_neg (by rw [es, eL]; exact hno)]
            unfold decNum
            rw [ecut, es, eL, if_pos hn, if_neg (by rw [e0]; exact fun hh => hz ⟨by omega, hh.2⟩)]
            rw [← he] at hp ⊢
            exact closed_same h hM hp
        · cases hp
theorem one_same {t u : List UInt8} {k p M L kd n : Nat} (h : Ag t k u p M) (hL : 0 < L) (hM : L ≤ M) (hp : oneAt t k = .ok kd (k + L) n) : oneAt u p = .ok kd (p + L) n := by
  have l1 := h.1.1
  have l2 := h.1.2.1
  obtain ⟨s1, s2⟩ := pairs_same h
  have e0 := h.1.2.2 0 (by omega)
  rw [Nat.add_zero, Nat.add_zero] at e0
  unfold oneAt at hp ⊢
  split at hp
  · rename_i hc
    rw [if_pos]
    · exact num_same h hL hM hp
    · rw [e0]
      rcases hc with hc | hc
      · left
        have hle : numAt t k = .ok kd (k + L) n := hp
        unfold numAt at hle
        cases hpr : pairsAt t k with
        | none => rw [hpr] at hc; cases hc
        | some z =>
          obtain ⟨m, e⟩ := z
          rw [hpr] at hle
          dsimp only at hle
          rw [s1 m e hpr (by have := (closed_ok hle).2.1; omega)]
          rfl
      · exact .inr hc
  · rename_i hc
    have hpn : pairsAt t k = none := by
      cases hpr : pairsAt t k with
      | none => rfl
      | some z => exact absurd (.inl (by rw [hpr]; rfl)) hc
    rw [if_neg (by rw [s2 hpn, e0]; exact fun hh => hc (.inr (hh.resolve_left (by simp))))]
    rw [e0]
    split at hp
    · rename_i hl
      split at hp
      · cases hp
      · rename_i h32
        injection hp with h1 h2 h3
        have es := span_same h (q := isAl) al_blank M 0 rfl (by omega) (by rw [Nat.add_zero]; omega)
        rw [Nat.add_zero, Nat.add_zero] at es
        rw [if_pos hl, es, if_neg (by omega), h1, h3, show p + (span isAl t k - k) = p + L by omega]
    · rename_i hl
      rw [if_neg hl]
      split at hp
      · rename_i h58
        split at hp
        · rename_i h61
          injection hp with h1 h2 h3
          rw [if_pos h58, if_pos (by rw [is_same h (by omega)]; exact h61), h1, h3, show p + 2 = p + L by omega]
        · cases hp
      · rename_i h58
        rw [if_neg h58]
        split at hp
        · rename_i hs
          injection hp with h1 h2 h3
          rw [if_pos hs, h1, h3, show p + 1 = p + L by omega]
        · cases hp
end Go.Proofs.YtpolbdakhfcilaaGreatDoor.B

/-
  scan: texts one behind the other.
-/
set_option maxRecDepth 100000
set_option linter.unusedVariables false
set_option linter.unusedSimpArgs false
namespace Go.Proofs.YtpolbdakhfcilaaGreatDoor.B
open Go Go.Proofs Go.Proofs.YtpolbdakhfcilaaGreatDoorEng Go.RowKit

def sh (d : Nat) (x : Wd) : Wd := ⟨x.kind, x.txt, x.num, x.pos + d⟩
/-- a text stands in another -/
def In (a u : List UInt8) (p : Nat) : Prop := p + a.length ≤ u.length ∧ ∀ i, i < a.length → g u (p + i) = g a i
theorem scan_sk {u : List UInt8} {k k' : Nat} {acc : List Wd} (h : sk u false k = sk u false k') : scan u k acc = scan u k' acc := by
  by_cases hlt : sk u false k < u.length
  · cases ho : oneAt u (sk u false k) with
    | bad e j => rw [scan_bad hlt ho, scan_bad (by rw [← h]; exact hlt) (by rw [← h]; exact ho), h]
    | ok kd j m => rw [scan_go hlt ho, scan_go (k := k') (by rw [← h]; exact hlt) (by rw [← h]; exact ho), h]
  · rw [scan_end hlt, scan_end (by rw [← h]; exact hlt)]
theorem sk_in {a u : List UInt8} {p : Nat} (hi : In a u p) : ∀ (d : Nat) (rem : Bool) (k : Nat), a.length - k = d → k ≤ a.length → (sk a rem k < a.length → sk u rem (p + k) = p + sk a rem k) ∧ (¬ sk a rem k < a.length → ∃ r2, sk u rem (p + k) = sk u r2 (p + a.length)) := by
  intro d
  induction d with
  | zero =>
    intro rem k hd hk
    obtain rfl : k = a.length := by omega
    refine ⟨fun h => ?_, fun _ => ⟨rem, rfl⟩⟩
    rw [sk_end (by omega)] at h
    omega
  | succ d ih =>
    intro rem k hd hk
    have hlt : k < a.length := by omega
    have hu : p + k < u.length := by have := hi.1; omega
    have e := hi.2 k hlt
    by_cases h1 : g a k = 10
    · rw [sk_nl hlt h1, sk_nl hu (by rw [e]; exact h1)]
      exact ih false (k + 1) (by omega) (by omega)
    · cases rem with
      | true =>
        rw [sk_rem hlt h1, sk_rem hu (by rw [e]; exact h1)]
        exact ih true (k + 1) (by omega) (by omega)
      | false =>
        by_cases h2 : g a k = 32 ∨ g a k = 9 ∨ g a k = 13
        · rw [sk_blank hlt h2, sk_blank hu (by rw [e]; exact h2)]
          exact ih false (k + 1) (by omega) (by omega)
        · by_cases h3 : g a k = 35
          · rw [sk_hash hlt h3, sk_hash hu (by rw [e]; exact h3)]
            exact ih true (k + 1) (by omega) (by omega)
          · rw [sk_stop hlt h1 h2 h3, sk_stop hu (by rw [e]; exact h1) (by rw [e]; exact h2) (by rw [e]; exact h3)]
            exact ⟨fun _ => rfl, fun h => absurd hlt h⟩
theorem seg {a u : List UInt8} {p : Nat} {Z : List Wd → List Wd ⊕ (Nat × Nat × List UInt8)} (hi : In a u p) (hst : Stp u (p + a.length)) (hend : ∀ k acc, k ≤ a.length → ¬ sk a false k < a.length → scan u (p + k) acc = Z acc) (k : Nat) (hk : k ≤ a.length) (acc0 ws : List Wd) (h : scan a k acc0 = .inl ws) : ∃ r, ws = acc0 ++ r ∧ ∀ acc, scan u (p + k) acc = Z (acc ++ r.map (sh p)) := by
  by_cases hlt : sk a false k < a.length
  · cases ho : oneAt a (sk a false k) with
    | bad e j => rw [scan_bad hlt ho] at h; cases h
    | ok kd j m =>
      rw [scan_go hlt ho] at h
      have hle := one_le ho hlt
      have hsk := (sk_le a false k).1
      obtain ⟨r, e, hr⟩ := seg hi hst hend j hle.2.2.2 _ ws h
      generalize hq : sk a false k = q at *
      have hsu : sk u false (p + k) = p + q := by rw [← hq]; exact (sk_in hi _ false k rfl hk).1 (by rw [hq]; exact hlt)
      have ha : Ag a q u (p + q) (a.length - q) := ⟨⟨by omega, by have := hi.1; omega, fun i h' => by rw [Nat.add_assoc]; exact hi.2 _ (by omega)⟩, by rw [show p + q + (a.length - q) = p + a.length by omega]; exact hst⟩
      have ho' := one_same ha (L := j - q) (by omega) (by omega) (by rw [show q + (j - q) = j by omega]; exact ho)
      rw [show p + q + (j - q) = p + j by omega] at ho'
      have hcut : cut u (p + q) (p + j) = cut a q j := by
        have := cut_same ha.1 _ 0 (j - q) rfl (by omega)
        rw [Nat.add_zero, Nat.add_zero, show p + q + (j - q) = p + j by omega, show q + (j - q) = j by omega] at this
        exact this
      refine ⟨⟨kd, cut a q j, m, q⟩ :: r, by rw [e]; simp, fun acc => ?_⟩
      rw [scan_go (by rw [hsu]; have := hi.1; omega) (by rw [hsu]; exact ho'), hsu, hcut, hr]
      congr 1
      simp [sh, Nat.add_comm]
  · rw [scan_end hlt] at h
    injection h with h
    exact ⟨[], by simp [h], fun acc => by rw [hend k acc hk hlt]; simp⟩
termination_by a.length - k
decreasing_by
  have := (sk_le a false k).1
  have := one_le (by assumption) (by assumption)
  omega
theorem g_right (a b : List UInt8) (i : Nat) : g (a ++ b) (a.length + i) = g b i := by
  unfold g
  simp [List.getD_eq_getElem?_getD, List.getElem?_append_right]
theorem g_left {a b : List UInt8} {i : Nat} (h : i < a.length) : g (a ++ b) i = g a i := by
  unfold g
  simp [List.getD_eq_getElem?_getD, List.getElem?_append_left h]
end Go.Proofs.YtpolbdakhfcilaaGreatDoor.B

/-
  parse: the same words elsewhere are read as the same term.
-/
set_option maxRecDepth 100000
set_option linter.unusedVariables false
set_option linter.unusedSimpArgs false
namespace Go.Proofs.YtpolbdakhfcilaaGreatDoor.B
open Go Go.Proofs Go.Proofs.YtpolbdakhfcilaaGreatDoorEng Go.RowKit

theorem next_ok_inv {r : Pr} {k : Tm → Nat → Pr} {t : Tm} {j : Nat} (h : r.next k = .ok t j) : ∃ t1 j1, r = .ok t1 j1 ∧ k t1 j1 = .ok t j := by
  cases r with
  | ok t1 j1 => exact ⟨t1, j1, rfl, h⟩
  | bad _ => cases h
  | out => cases h
/-- the same word -/
def SameW (x y : Wd) : Prop := x.kind = y.kind ∧ x.txt = y.txt ∧ x.num = y.num
/-- rows of words that are the same up to a place -/
def Alike (ws ws' : List Wd) (d e : Nat) : Prop := ∀ i, i < e → ∃ x y, ws[i]? = some x ∧ ws'[i + d]? = some y ∧ SameW x y
def NoSign (ws : List Wd) (e : Nat) : Prop := isW ws e 3 [43] = false ∧ isW ws e 3 [59] = false ∧ isW ws e 3 [124] = false ∧ isW ws e 3 [38] = false ∧ isW ws e 3 [42] = false
theorem Alike.isW {ws ws' : List Wd} {d e i : Nat} (h : Alike ws ws' d e) (hi : i < e) (k : Nat) (txt : List UInt8) : isW ws' (i + d) k txt = isW ws i k txt := by
  obtain ⟨x, y, h1, h2, h3, h4, _⟩ := h i hi
  unfold B.isW
  rw [h1, h2]
  simp [tk, h3, h4]
theorem pairS_ok {ws : List Wd} {op : Nat} {sg : List UInt8} {i j : Nat} {t : Tm} (h : pairS ws op sg i = .ok t j) : ∃ x y f, ws[i]? = some x ∧ keyOf x.txt = some f ∧ x.kind = 1 ∧ 0 ≤ f ∧ isW ws (i + 1) 3 sg = true ∧ ws[i + 2]? = some y ∧ y.kind = 2 ∧ t = .mk op f y.num [] ∧ j = i + 3 := by
  unfold pairS at h
  split at h
  · cases h
  · rename_i x hx
    split at h
    · cases h
    · rename_i f hf
      split at h
      · rename_i hc
        split at h
        · rename_i hw
          split at h
          · rename_i y hy
            split at h
            · rename_i hk
              injection h with h1 h2
              exact ⟨x, y, f, hx, hf, hc.1, hc.2, hw, hy, hk, h1.symm, h2.symm⟩
            · cases h
          · cases h
        · cases h
      · cases h
theorem pairS_mk {ws : List Wd} {op : Nat} {sg : List UInt8} {i : Nat} {x y : Wd} {f : Int} (h1 : ws[i]? = some x) (h2 : keyOf x.txt = some f) (h3 : x.kind = 1) (h4 : 0 ≤ f) (h5 : isW ws (i + 1) 3 sg = true) (h6 : ws[i + 2]? = some y) (h7 : y.kind = 2) : pairS ws op sg i = .ok (.mk op f y.num []) (i + 3) := by
  unfold pairS
  rw [h1]
  dsimp only
  rw [h2]
  dsimp only
  rw [if_pos ⟨h3, h4⟩, if_pos h5, h6]
  dsimp only
  rw [if_pos h7]
theorem pairS_move {ws ws' : List Wd} {d e : Nat} (h : Alike ws ws' d e) {op : Nat} {sg : List UInt8} {i j : Nat} {t : Tm} (hp : pairS ws op sg i = .ok t j) (hj : j ≤ e) : pairS ws' op sg (i + d) = .ok t (j + d) := by
  obtain ⟨x, y, f, h1, h2, h3, h4, h5, h6, h7, rfl, rfl⟩ := pairS_ok hp
  obtain ⟨x1, x', k1, k2, k3, k4, _⟩ := h i (by omega)
  rw [h1] at k1
  injection k1 with k1
  subst k1
  obtain ⟨y1, y', l1, l2, l3, _, l5⟩ := h (i + 2) (by omega)
  rw [h6] at l1
  injection l1 with l1
  subst l1
  have := pairS_mk (ws := ws') (op := op) (sg := sg) (i := i + d) k2 (by rw [← k4]; exact h2) (by rw [← k3]; exact h3) h4 (by rw [show i + d + 1 = i + 1 + d by omega, h.isW (by omega)]; exact h5) (by rw [show i + d + 2 = i + 2 + d by omega]; exact l2) (by rw [← l3]; exact h7)
  rw [this, ← l5, show i + d + 3 = i + 3 + d by omega]
theorem closeS_ok {ws : List Wd} {t0 t : Tm} {i j : Nat} (h : closeS ws t0 i = .ok t j) : isW ws i 3 [41] = true ∧ t = t0 ∧ j = i + 1 := by
  unfold closeS at h
  split at h
  · rename_i hw
    injection h with h1 h2
    exact ⟨hw, h1.symm, h2.symm⟩
  · cases h
theorem pa_lt (ws : List Wd) {f : Nat} {lv : Lv} {i : Nat} {t : Tm} {j : Nat} (hlv : lv = .not ∨ lv = .atom) (h : pa ws f lv i = .ok t j) : i < j := by
  cases f with
  | zero => cases h
  | succ f =>
    rcases hlv with rfl | rfl
    · rw [pa] at h
      split at h
      · obtain ⟨t1, j1, h1, h2⟩ := next_ok_inv h
        injection h2 with h3 h4
        have := pa_le_ok ws _ _ _ _ _ h1
        omega
      split at h
      · injection h with h1 h2; omega
      split at h
      · injection h with h1 h2; omega
      split at h
      · obtain ⟨t1, j1, h1, h2⟩ := next_ok_inv h
        have := pa_le_ok ws _ _ _ _ _ h1
        have := (closeS_ok h2).2.2
        omega
      obtain ⟨_, _, _, _, _, _, _, _, _, _, _, rfl⟩ := pairS_ok h
      omega
    · rw [pa] at h
      split at h
      · obtain ⟨t1, j1, h1, h2⟩ := next_ok_inv h
        injection h2 with h3 h4
        have := pa_le_ok ws _ _ _ _ _ h1
        omega
      split at h
      · injection h with h1 h2; omega
      split at h
      · injection h with h1 h2; omega
      split at h
      · obtain ⟨t1, j1, h1, h2⟩ := next_ok_inv h
        have := pa_le_ok ws _ _ _ _ _ h1
        have := (closeS_ok h2).2.2
        omega
      split at h
      · obtain ⟨t1, j1, h1, h2⟩ := next_ok_inv h
        have := pa_le_ok ws _ _ _ _ _ h1
        split at h2
        · obtain ⟨t2, j2, h3, h4⟩ := next_ok_inv h2
          have := pa_le_ok ws _ _ _ _ _ h3
          split at h4
          · obtain ⟨t3, j3, h5, h6⟩ := next_ok_inv h4
            injection h6 with h7 h8
            have := pa_le_ok ws _ _ _ _ _ h5
            omega
          · cases h4
        · cases h2
      obtain ⟨_, _, _, _, _, _, _, _, _, _, _, rfl⟩ := pairS_ok h
      omega
theorem pa_move {ws ws' : List Wd} {d e : Nat} (h : Alike ws ws' d e) (hn : NoSign ws' (e + d)) : ∀ (f : Nat) (lv : Lv) (i : Nat) (t : Tm) (j : Nat), pa ws f lv i = .ok t j → j ≤ e → pa ws' f lv (i + d) = .ok t (j + d) := by
  intro f
  induction f with
  | zero => intro lv i t j hp; cases hp
  | succ f ih =>
    have nosign : ∀ k : Rw, isW ws' (e + d) 3 k.sign = false := fun k => by
      cases k
      · exact hn.1
      · exact hn.2.1
      · exact hn.2.2.1
      · exact hn.2.2.2.1
    intro lv i t j hp hj
    cases lv with
    | row k =>
      rw [pa] at hp ⊢
      obtain ⟨t1, j1, h1, h2⟩ := next_ok_inv hp
      have := pa_le_ok ws _ _ _ _ _ h2
      rw [ih _ _ _ _ h1 (by omega)]
      exact ih _ _ _ _ h2 hj
    | rest k acc =>
      rw [pa] at hp ⊢
      by_cases hw : isW ws i 3 k.sign = true
      · rw [if_pos hw] at hp
        obtain ⟨t1, j1, h1, h2⟩ := next_ok_inv hp
        have g1 := pa_le_ok ws _ _ _ _ _ h1
        have g2 := pa_le_ok ws _ _ _ _ _ h2
        rw [if_pos (by rw [h.isW (by omega)]; exact hw), show i + d + 1 = i + 1 + d by omega, ih _ _ _ _ h1 (by omega)]
        exact ih _ _ _ _ h2 hj
      · rw [if_neg hw] at hp
        injection hp with h1 h2
        subst h1; subst h2
        rw [if_neg]
        rcases Nat.lt_or_ge i e with hlt | hge
        · rw [h.isW hlt]; exact hw
        · have : i = e := by omega
          subst this
          rw [nosign k]
          simp
    | star =>
      rw [pa] at hp ⊢
      obtain ⟨t1, j1, h1, h2⟩ := next_ok_inv hp
      have := pa_le_ok ws _ _ _ _ _ h2
      rw [ih _ _ _ _ h1 (by omega)]
      exact ih _ _ _ _ h2 hj
    | stars t0 =>
      rw [pa] at hp ⊢
      by_cases hw : isW ws i 3 [42] = true
      · rw [if_pos hw] at hp
        have g2 := pa_le_ok ws _ _ _ _ _ hp
        rw [if_pos (by rw [h.isW (by omega)]; exact hw), show i + d + 1 = i + 1 + d by omega]
        exact ih _ _ _ _ hp hj
      · rw [if_neg hw] at hp
        injection hp with h1 h2
        subst h1; subst h2
        rw [if_neg]
        rcases Nat.lt_or_ge i e with hlt | hge
        · rw [h.isW hlt]; exact hw
        · have : i = e := by omega
          subst this
          rw [hn.2.2.2.2]
          simp
    | not =>
      have hij := pa_lt ws (.inl rfl) hp
      have hW := fun k txt => h.isW (i := i) (by omega) k txt
      rw [pa] at hp ⊢
      rw [hW, hW, hW, hW]
      by_cases q1 : isW ws i 3 [33] = true
      · rw [if_pos q1] at hp ⊢
        obtain ⟨t1, j1, h1, h2⟩ := next_ok_inv hp
        injection h2 with h3 h4
        subst h3; subst h4
        rw [show i + d + 1 = i + 1 + d by omega, ih _ _ _ _ h1 hj]
        rfl
      rw [if_neg q1] at hp ⊢
      by_cases q2 : isW ws i 1 [116, 114, 117, 101] = true
      · rw [if_pos q2] at hp ⊢
        injection hp with h3 h4
        subst h3; subst h4
        rw [show i + d + 1 = i + 1 + d by omega]
      rw [if_neg q2] at hp ⊢
      by_cases q3 : isW ws i 1 [102, 97, 108, 115, 101] = true
      · rw [if_pos q3] at hp ⊢
        injection hp with h3 h4
        subst h3; subst h4
        rw [show i + d + 1 = i + 1 + d by omega]
      rw [if_neg q3] at hp ⊢
      by_cases q4 : isW ws i 3 [40] = true
      · rw [if_pos q4] at hp ⊢
        obtain ⟨t1, j1, h1, h2⟩ := next_ok_inv hp
        obtain ⟨hw, rfl, rfl⟩ := closeS_ok h2
        rw [show i + d + 1 = i + 1 + d by omega, ih _ _ _ _ h1 (by omega)]
        show closeS ws' _ _ = _
        unfold closeS
        rw [if_pos (by rw [h.isW (by omega)]; exact hw), show j1 + d + 1 = j1 + 1 + d by omega]
      rw [if_neg q4] at hp ⊢
      exact pairS_move h hp hj
    | atom =>
      have hij := pa_lt ws (.inr rfl) hp
      have hW := fun k txt => h.isW (i := i) (by omega) k txt
      rw [pa] at hp ⊢
      rw [hW, hW, hW, hW, hW]
      by_cases q1 : isW ws i 1 [102, 105, 108, 116, 101, 114] = true
      · rw [if_pos q1] at hp ⊢
        obtain ⟨t1, j1, h1, h2⟩ := next_ok_inv hp
        injection h2 with h3 h4
        subst h3; subst h4
        rw [show i + d + 1 = i + 1 + d by omega, ih _ _ _ _ h1 hj]
        rfl
      rw [if_neg q1] at hp ⊢
      by_cases q2 : isW ws i 1 [105, 100] = true
      · rw [if_pos q2] at hp ⊢
        injection hp with h3 h4
        subst h3; subst h4
        rw [show i + d + 1 = i + 1 + d by omega]
      rw [if_neg q2] at hp ⊢
      by_cases q3 : isW ws i 1 [100, 114, 111, 112] = true
      · rw [if_pos q3] at hp ⊢
        injection hp with h3 h4
        subst h3; subst h4
        rw [show i + d + 1 = i + 1 + d by omega]
      rw [if_neg q3] at hp ⊢
      by_cases q4 : isW ws i 3 [40] = true
      · rw [if_pos q4] at hp ⊢
        obtain ⟨t1, j1, h1, h2⟩ := next_ok_inv hp
        obtain ⟨hw, rfl, rfl⟩ := closeS_ok h2
        rw [show i + d + 1 = i + 1 + d by omega, ih _ _ _ _ h1 (by omega)]
        show closeS ws' _ _ = _
        unfold closeS
        rw [if_pos (by rw [h.isW (by omega)]; exact hw), show j1 + d + 1 = j1 + 1 + d by omega]
      rw [if_neg q4] at hp ⊢
      by_cases q5 : isW ws i 1 [105, 102] = true
      · rw [if_pos q5] at hp ⊢
        obtain ⟨t1, j1, h1, h2⟩ := next_ok_inv hp
        split at h2
        · rename_i w1
          obtain ⟨t2, j2, h3, h4⟩ := next_ok_inv h2
          split at h4
          · rename_i w2
            obtain ⟨t3, j3, h5, h6⟩ := next_ok_inv h4
            injection h6 with h7 h8
            subst h7; subst h8
            have g1 := pa_le_ok ws _ _ _ _ _ h3
            have g2 := pa_le_ok ws _ _ _ _ _ h5
            rw [show i + d + 1 = i + 1 + d by omega, ih _ _ _ _ h1 (by omega)]
            show (if _ then _ else _) = _
            rw [if_pos (by rw [h.isW (by omega)]; exact w1), show j1 + d + 1 = j1 + 1 + d by omega, ih _ _ _ _ h3 (by omega)]
            show (if _ then _ else _) = _
            rw [if_pos (by rw [h.isW (by omega)]; exact w2), show j2 + d + 1 = j2 + 1 + d by omega, ih _ _ _ _ h5 (by omega)]
            rfl
          · cases h4
        · cases h2
      rw [if_neg q5] at hp ⊢
      exact pairS_move h hp hj
theorem Pa.move {ws ws' : List Wd} {d e : Nat} (h : Alike ws ws' d e) (hn : NoSign ws' (e + d)) {lv : Lv} {i j : Nat} {t : Tm} (hp : Pa ws lv i (.ok t j)) (hj : j ≤ e) : Pa ws' lv (i + d) (.ok t (j + d)) := by
  obtain ⟨_, f, hf⟩ := hp
  exact ⟨by simp, f, pa_move h hn f lv i t j hf hj⟩
end Go.Proofs.YtpolbdakhfcilaaGreatDoor.B

/-
  parse: brackets around a text: the plain law.
-/
set_option maxRecDepth 100000
set_option linter.unusedVariables false
set_option linter.unusedSimpArgs false
namespace Go.Proofs.YtpolbdakhfcilaaGreatDoor.B
open Go Go.Proofs Go.Proofs.YtpolbdakhfcilaaGreatDoorEng Go.RowKit

/-- a text that is taken, without queries: its words, read whole -/
theorem taken {a : List UInt8} {p : Tm} (h : PolP a (.ok p [])) : ∃ ra, scan a 0 [] = .inl ra ∧ Pa (ra ++ [⟨0, [], 0, a.length⟩]) (.row .pol) 0 (.ok p ra.length) ∧ smallS [p] = true ∧ a.length ≤ 65536 ∧ (∀ x ∈ ra, x.kind ≠ 0) := by
  unfold PolP at h
  cases hall : allR a with
  | inr x => rw [hall] at h; cases h
  | inl ws =>
    rw [hall] at h
    obtain ⟨hl, ra, rfl, _, hg, hs⟩ := allR_good hall
    rcases h with ⟨j, x, _, _, h3⟩ | ⟨t, j, l, e, b, x, h1, h2, h3, h4⟩
    · cases h3
    · unfold endS at h4
      by_cases hb : b = true ∧ x.kind = 0
      · rw [if_pos hb] at h4
        by_cases hsm : smallS (t :: l.map (·.2)) = true
        · rw [if_pos hsm] at h4
          injection h4 with h5 h6
          subst h5; subst h6
          have hej : e = j := by
            cases h2 with
            | stop _ => rfl
            | bad _ _ => exact absurd hb.1 (by simp)
          subst hej
          have hj : e = ra.length := by
            rcases Nat.lt_or_ge e ra.length with h' | h'
            · rw [List.getElem?_append_left h'] at h3
              exact absurd hb.2 (hg x (List.mem_of_getElem? h3)).2
            · rcases Nat.eq_or_lt_of_le h' with h7 | h7
              · exact h7.symm
              · rw [List.getElem?_eq_none (by simp; omega)] at h3
                cases h3
          subst hj
          exact ⟨ra, hs, h1, hsm, hl, fun x hx => (hg x hx).2⟩
        · rw [if_neg hsm] at h4; cases h4
      · rw [if_neg hb] at h4; cases h4
/-- the words of a text stand in a row from a place on -/
def Stand (ra ws : List Wd) (d : Nat) : Prop := ∀ i x, ra[i]? = some x → ∃ y, ws[i + d]? = some y ∧ SameW x y
theorem Stand.alike {ra ws : List Wd} {d : Nat} (h : Stand ra ws d) (e : Wd) : Alike (ra ++ [e]) ws d ra.length := fun i hi => by
  obtain ⟨y, h1, h2⟩ := h i _ (List.getElem?_eq_getElem hi)
  exact ⟨_, y, by rw [List.getElem?_append_left hi]; exact List.getElem?_eq_getElem hi, h1, h2⟩
theorem isW_at {ws : List Wd} {i : Nat} {x : Wd} (h : ws[i]? = some x) (k : Nat) (txt : List UInt8) : isW ws i k txt = decide (x.kind = k ∧ x.txt = txt) := by
  unfold isW
  rw [h]
  rfl
/-- brackets around words that are read whole -/
theorem bracket {ra ws : List Wd} {d : Nat} {p : Tm} {e l r : Wd} (hs : Stand ra ws (d + 1)) (hp : Pa (ra ++ [e]) (.row .pol) 0 (.ok p ra.length)) (hl : ws[d]? = some l) (hl1 : l.kind = 3 ∧ l.txt = [40]) (hr : ws[ra.length + (d + 1)]? = some r) (hr1 : r.kind = 3 ∧ r.txt = [41]) : Pa ws .atom d (.ok p (d + ra.length + 2)) := by
  have hn : NoSign ws (ra.length + (d + 1)) := by
    unfold NoSign
    rw [isW_at hr, isW_at hr, isW_at hr, isW_at hr, isW_at hr, hr1.2]
    simp
  have h1 := Pa.move (hs.alike e) hn hp (Nat.le_refl _)
  rw [Nat.zero_add] at h1
  obtain ⟨f, hf⟩ := h1.at
  refine ⟨by simp, f + 1, ?_⟩
  rw [pa, isW_at hl, isW_at hl, isW_at hl, isW_at hl, hl1.1, hl1.2, if_neg (by simp), if_neg (by simp), if_neg (by simp), if_pos (by simp), hf f (Nat.le_refl _)]
  show closeS ws p _ = _
  unfold closeS
  rw [if_pos (by rw [isW_at hr, hr1.1, hr1.2]; simp)]
  congr 1
  omega
theorem isW_sign {ws : List Wd} {i : Nat} {x : Wd} (h : ws[i]? = some x) {txt : List UInt8} (hx : x.kind ≠ 3 ∨ x.txt ≠ txt) : isW ws i 3 txt = false := by
  rw [isW_at h]
  exact decide_eq_false fun hh => by
    rcases hx with hx | hx
    · exact hx hh.1
    · exact hx hh.2
/-- at the end nothing goes on -/
theorem Pa.ends {ws : List Wd} {i j : Nat} {t : Tm} {x : Wd} (h : Pa ws .atom i (.ok t j)) (hx : ws[j]? = some x) (hk : x.kind ≠ 3) : Pa ws (.row .pol) i (.ok t j) := by
  have no : ∀ txt, isW ws j 3 txt = false := fun txt => isW_sign hx (.inl hk)
  refine Pa.row (k := .pol) (t := t) (j := j) (Pa.row (k := .seq) (t := t) (j := j) (Pa.star h (Pa.stars_end (no _))) ?_) ?_
  · exact Pa.rest_end (k := .seq) (acc := [t]) (no _)
  · exact Pa.rest_end (k := .pol) (acc := [t]) (no _)
end Go.Proofs.YtpolbdakhfcilaaGreatDoor.B

/-
  parse: brackets around the whole, around two parts, and a star behind: what is answered.
-/
set_option maxRecDepth 100000
set_option linter.unusedVariables false
set_option linter.unusedSimpArgs false
namespace Go.Proofs.YtpolbdakhfcilaaGreatDoor.B
open Go Go.Proofs Go.Proofs.YtpolbdakhfcilaaGreatDoorEng Go.RowKit

theorem allR_of {u : List UInt8} {ws : List Wd} (hl : u.length ≤ 65536) (h : scan u 0 [] = .inl ws) : allR u = .inl (ws ++ [⟨0, [], 0, u.length⟩]) := by
  unfold allR
  rw [if_neg (by omega), h]
end Go.Proofs.YtpolbdakhfcilaaGreatDoor.B

