/-
  parse: what is answered is one; faults as the law tells them; the texts by hand.
-/
import Derived.Test.YtpolbdakhfcilaaGreatDoorPaMO
set_option maxRecDepth 100000
set_option linter.unusedVariables false
set_option linter.unusedSimpArgs false
namespace Go.Proofs.YtpolbdakhfcilaaGreatDoor.B
open Go Go.Proofs Go.Proofs.YtpolbdakhfcilaaGreatDoorEng Go.RowKit

theorem kept_of_ {w w' : World} (hc : Chg NoS w w') : Kept NoS w w' := ⟨hc.size, fun b hb _ => hc.block b hb fun x => x⟩
theorem Qa.det {ws : List Wd} {i : Nat} {r s : Pr} (h : Qa ws i r) (k : Qa ws i s) : r = s := by
  unfold Qa at h k
  cases hx : ws[i]? with
  | none => rw [hx] at h; exact h.elim
  | some x =>
    rw [hx] at h k
    dsimp only at h k
    by_cases h1 : isName x = true
    · rw [if_pos h1] at h k
      by_cases h2 : isW ws (i + 1) 3 [61] = true
      · rw [if_pos h2] at h k
        exact h.det k
      · rw [if_neg h2] at h k
        rw [h, k]
    · rw [if_neg h1] at h k
      rw [h, k]
theorem QsR.det {ws : List Wd} {i e e' : Nat} {l l' : List (List UInt8 × Tm)} {b b' : Bool} (h : QsR ws i l e b) (k : QsR ws i l' e' b') : l = l' ∧ e = e' ∧ b = b' := by
  induction h generalizing l' e' b' with
  | stop h =>
    cases k with
    | stop _ => exact ⟨rfl, rfl, rfl⟩
    | bad k1 _ => rw [h] at k1; cases k1
    | go k1 _ _ _ => rw [h] at k1; cases k1
  | bad h1 h2 =>
    cases k with
    | stop k1 => rw [h1] at k1; cases k1
    | bad _ k2 =>
      have := h2.det k2
      injection this with this
      exact ⟨rfl, this, rfl⟩
    | go _ _ k3 _ => have := h2.det k3; cases this
  | go h1 hx h3 h4 ih =>
    cases k with
    | stop k1 => rw [h1] at k1; cases k1
    | bad _ k2 => have := h3.det k2; cases this
    | go _ kx k3 k4 =>
      have := h3.det k3
      injection this with e1 e2
      subst e1; subst e2
      rw [hx] at kx
      injection kx with kx
      subst kx
      obtain ⟨rfl, rfl, rfl⟩ := ih k4
      exact ⟨rfl, rfl, rfl⟩
theorem FileP.det {ws : List Wd} {o o' : Fo} (h : FileP ws o) (k : FileP ws o') : o = o' := by
  rcases h with ⟨j, x, h1, h2, rfl⟩ | ⟨t, j, l, e, b, x, h1, h2, h3, rfl⟩ <;> rcases k with ⟨j', x', k1, k2, rfl⟩ | ⟨t', j', l', e', b', x', k1, k2, k3, rfl⟩
  · have := h1.det k1
    injection this with this
    subst this
    rw [h2] at k2
    injection k2 with k2
    rw [k2]
  · have := h1.det k1; cases this
  · have := h1.det k1; cases this
  · have := h1.det k1
    injection this with e1 e2
    subst e1; subst e2
    obtain ⟨rfl, rfl, rfl⟩ := h2.det k2
    rw [h3] at k3
    injection k3 with k3
    rw [k3]
theorem PolP.det {t : List UInt8} {o o' : Fo} (h : PolP t o) (k : PolP t o') : o = o' := by
  unfold PolP at h k
  cases hall : allR t with
  | inr x =>
    rw [hall] at h k
    dsimp only at h k
    rw [h, k]
  | inl ws =>
    rw [hall] at h k
    exact FileP.det h k
/-- Policy's answer, where it is known -/
theorem Policy_is {w : World} {t : List UInt8} {o : Fo} (hE : Errs w) (ho : PolP t o) : Calls Tryz.prog 9 #[.string (bs t)] w (endW (RetF w o) (fun _ _ => False)) :=
  (Policy_ok w t hE).mono fun e w' he => by
    cases e with
    | panicked _ => exact he.elim
    | outgrown => exact he.elim
    | returned v =>
      obtain ⟨o', h1, h2⟩ := he
      rw [ho.det h1]
      exact h2
end Go.Proofs.YtpolbdakhfcilaaGreatDoor.B
