/-
  scan: two rows of the same words.
-/
import Derived.Test.YthifnahfcbgnoaaDoorScW
import Derived.Test.YthifnahfcbgnoaaDoorScP
set_option maxRecDepth 100000
set_option linter.unusedVariables false
set_option linter.unusedSimpArgs false
namespace Go.Proofs.YthifnahfcbgnoaaDoor.B
open Go Go.Proofs Go.Proofs.YthifnahfcbgnoaaDoorEng Go.RowKit

theorem words_ok {w : World} {base base' n n' c c' : Nat} {a a' : Option Addr} {ws : List Wd} (h : w.ownsRow base 39 4 (.slice a n c) n (wcells ws)) (h' : w.ownsRow base' 39 4 (.slice a' n' c') n' (wcells ws)) (hn : n = ws.length) (hn' : n' = ws.length) (hl : ws.length < 1000000) :
    Calls Tryd.prog 10 #[.slice a n c, .slice a' n' c'] w (endW (fun v w' => v = .bool true ∧ Chg NoS w w') (fun _ _ => False)) := by
  refine F10_calls _ _ _ _ _ _ ?_
  delta F10
  rw [if_neg (by simp; omega)]
  refine ⟨fun s w' => ∃ i : Nat, s = (i : Int) ∧ i ≤ ws.length ∧ Chg NoS w w', fun s _ => (n - s).toNat, ⟨0, ⟨rfl, trivial⟩, 0, rfl, by omega, Chg.refl _ _⟩, ?_⟩
  rintro _ w1 ⟨i, rfl, hi, hc⟩ _
  by_cases hlt : i < n
  · rw [if_pos (by simp; omega)]
    have hil : i < ws.length := by omega
    have hcd : Chg NoS w w1.drew := hc.trans (chg_drew _ _)
    obtain ⟨A, rfl, a0, a1, a2, a3⟩ := row_word (own_of_chg h hcd fun _ _ x => x) (List.getElem?_eq_getElem hil)
    obtain ⟨B, rfl, b0, b1, b2, b3⟩ := row_word (own_of_chg h' hcd fun _ _ x => x) (List.getElem?_eq_getElem hil)
    rw [Int.toNat_natCast]
    refine ⟨by omega, by omega, some_i ⟨by omega, by omega, some_i ⟨_, a0, _, a1, _, a2, _, a3, _, b0, _, b1, _, b2, _, b3, ?_⟩⟩⟩
    rw [if_neg (by simp)]
    exact ⟨((i + 1 : Nat) : Int), ⟨by rw [i64w _ (by omega) (by omega)]; rfl, trivial⟩, ⟨i + 1, rfl, by omega, hcd⟩, by dsimp only; omega⟩
  · rw [if_neg (by simp; omega)]
    exact ⟨rfl, hc⟩
end Go.Proofs.YthifnahfcbgnoaaDoor.B
