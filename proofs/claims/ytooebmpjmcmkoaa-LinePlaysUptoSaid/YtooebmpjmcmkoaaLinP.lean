/-
  line: Same and All.
-/
import Derived.Test.YtooebmpjmcmkoaaLinN
set_option maxRecDepth 100000
set_option linter.unusedVariables false
set_option linter.unusedSimpArgs false
namespace Go.Proofs.Ytooebmpjmcmkoaa.B
open Go Go.Proofs Go.Proofs.YtooebmpjmcmkoaaEng

theorem u8_eq {x y : UInt8} : ((x.toNat : Int) != (y.toNat : Int)) = decide (x ≠ y) := by
  by_cases h : x = y
  · subst h; simp
  · have : ¬ x.toNat = y.toNat := fun e => h (UInt8.toNat_inj.1 e)
    simp [h]
    omega
theorem Same_ok {w : World} {a b : Option Addr} {n c k c2 : Nat} {xs ys : List UInt8} (hn : xs.length = n) (hr : Reads w a (vals xs)) (hk : ys.length = k) (hr2 : Reads w b (vals ys)) (hl : n ≤ 1099511627776) (hl2 : k ≤ 1099511627776) :
    Calls Try.prog 22 #[.slice a n c, .slice b k c2] w (endW (fun v w' => v = .bool (decide (xs = ys)) ∧ Chg NoS w w') (fun _ _ => False)) := by
  refine F22_calls _ _ _ _ _ _ ?_
  delta F22
  by_cases hnk : n = k
  · rw [if_neg (by simp; omega)]
    refine ⟨fun s w' => ∃ i : Nat, s = (i : Int) ∧ i ≤ n ∧ Chg NoS w w' ∧ xs.take i = ys.take i, fun s _ => (n - s).toNat, ⟨0, ⟨rfl, trivial⟩, 0, rfl, by omega, Chg.refl _ _, by simp⟩, ?_⟩
    rintro s w1 ⟨i, rfl, hi, hc, heq⟩ _
    by_cases hlt : i < n
    · rw [if_pos (by simp; omega)]
      have hd := hc.trans (chg_drew w1 NoS)
      obtain ⟨A, rfl, h1⟩ := hr i _ (vals_get (by omega))
      obtain ⟨B, rfl, h2⟩ := hr2 i _ (vals_get (by omega))
      have g1 := hd.sameOld.cell h1
      have g2 := hd.sameOld.cell h2
      refine ⟨by omega, by omega, wSome_of rfl ⟨by omega, by omega, wSome_of rfl ⟨_, by simpa using g1, _, by simpa using g2, ?_⟩⟩⟩
      rw [u8_eq]
      by_cases hx : xs[i] = ys[i]
      · rw [if_neg (by simp [hx])]
        refine ⟨((i + 1 : Nat) : Int), ⟨by rw [i64w _ (by omega) (by omega)]; rfl, trivial⟩, ⟨i + 1, rfl, by omega, hd, ?_⟩, by dsimp only; omega⟩
        rw [← List.take_append_getElem (show i < xs.length by omega), ← List.take_append_getElem (show i < ys.length by omega), heq, hx]
      · rw [if_pos (by simp [hx])]
        have : decide (xs = ys) = false := by
          rw [decide_eq_false_iff_not]
          intro e
          subst e
          exact hx rfl
        rw [this]
        exact ⟨rfl, hd⟩
    · rw [if_neg (by simp; omega)]
      have : i = n := by omega
      subst this
      rw [List.take_of_length_le (by omega), List.take_of_length_le (by omega)] at heq
      subst heq
      exact ⟨by simp, hc⟩
  · rw [if_pos (by simp; omega)]
    have : decide (xs = ys) = false := by
      rw [decide_eq_false_iff_not]
      intro e
      subst e
      omega
    rw [this]
    exact ⟨rfl, Chg.refl _ _⟩

theorem All_ok {w : World} {X Y : Nat → Prop} {a b : Option Addr} {c c2 : Nat} {vs us : List Value} {ls ms : List (List UInt8)} (hr : Reads w a vs) (hb : BRows w X vs ls) (hr2 : Reads w b us) (hb2 : BRows w Y us ms)
    (hl : ls.length ≤ 1099511627776) (hl2 : ms.length ≤ 1099511627776) (hs : ∀ l ∈ ls, l.length ≤ 1099511627776) (hs2 : ∀ l ∈ ms, l.length ≤ 1099511627776) :
    Calls Try.prog 14 #[.slice a ls.length c, .slice b ms.length c2] w (endW (fun v w' => v = .bool (decide (ls = ms)) ∧ Chg NoS w w') (fun _ _ => False)) := by
  refine F14_calls _ _ _ _ _ _ ?_
  delta F14
  by_cases hnk : ls.length = ms.length
  · rw [if_neg (by simp; omega)]
    refine ⟨fun s w' => ∃ i : Nat, s = (i : Int) ∧ i ≤ ls.length ∧ Chg NoS w w' ∧ ls.take i = ms.take i, fun s _ => (ls.length - s).toNat, ⟨0, ⟨rfl, trivial⟩, 0, rfl, by omega, Chg.refl _ _, by simp⟩, ?_⟩
    rintro s w1 ⟨i, rfl, hi, hc, heq⟩ _
    by_cases hlt : i < ls.length
    · rw [if_pos (by simp; omega)]
      have hd := hc.trans (chg_drew w1 NoS)
      have hlt2 : i < ms.length := by omega
      obtain ⟨v, hv, hrow⟩ := hb.get (List.getElem?_eq_getElem hlt)
      obtain ⟨u, hu, hrow2⟩ := hb2.get (List.getElem?_eq_getElem hlt2)
      obtain ⟨A, rfl, h1⟩ := hr i _ hv
      obtain ⟨B, rfl, h2⟩ := hr2 i _ hu
      obtain ⟨ra, rc, rfl, _⟩ := id hrow
      obtain ⟨rb, rd, rfl, _⟩ := id hrow2
      have g1 := hd.sameOld.cell h1
      have g2 := hd.sameOld.cell h2
      refine ⟨by omega, by omega, wSome_of rfl ⟨by omega, by omega, wSome_of rfl ⟨_, _, _, by simpa using g1, _, _, _, by simpa using g2, ?_⟩⟩⟩
      refine Calls.then (Same_ok rfl (RowIn.rd (hrow.chg hd fun k _ h => h.elim)).1 rfl (RowIn.rd (hrow2.chg hd fun k _ h => h.elim)).1 (hs _ (List.getElem_mem hlt)) (hs2 _ (List.getElem_mem hlt2))) ?_
      rintro v w2 ⟨rfl, hc2⟩
      refine ⟨_, rfl, ?_⟩
      by_cases hx : ls[i] = ms[i]
      · rw [if_neg (by simp [hx])]
        refine ⟨((i + 1 : Nat) : Int), ⟨by rw [i64w _ (by omega) (by omega)]; rfl, trivial⟩, ⟨i + 1, rfl, by omega, hd.trans hc2, ?_⟩, by dsimp only; omega⟩
        rw [← List.take_append_getElem hlt, ← List.take_append_getElem hlt2, heq, hx]
      · rw [if_pos (by simp [hx])]
        have : decide (ls = ms) = false := by
          rw [decide_eq_false_iff_not]
          intro e
          subst e
          exact hx rfl
        rw [this]
        exact ⟨rfl, hd.trans hc2⟩
    · rw [if_neg (by simp; omega)]
      have : i = ls.length := by omega
      subst this
      rw [List.take_length, List.take_of_length_le (by omega)] at heq
      subst heq
      exact ⟨by simp, hc⟩
  · rw [if_pos (by simp; omega)]
    have : decide (ls = ms) = false := by
      rw [decide_eq_false_iff_not]
      intro e
      subst e
      omega
    rw [this]
    exact ⟨rfl, Chg.refl _ _⟩
end Go.Proofs.Ytooebmpjmcmkoaa.B
