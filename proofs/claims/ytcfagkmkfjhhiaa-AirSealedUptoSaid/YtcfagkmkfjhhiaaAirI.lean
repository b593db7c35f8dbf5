/-
  Two rows of bytes held against each other; two lists of rows.
-/
import Derived.Test.YtcfagkmkfjhhiaaAirH
import Derived.Test.YtcfagkmkfjhhiaaBD
set_option linter.unusedVariables false
set_option linter.unusedSimpArgs false
namespace Go.Proofs.Ytcfagkmkfjhhiaa.B
open Go Go.Proofs Go.Proofs.YtcfagkmkfjhhiaaEng

/-- A row of bytes, read. -/
def RB (w : World) (v : Value) (bs : List Value) : Prop := ∃ a n c, v = .slice a n c ∧ bs.length = n ∧ n ≤ 1099511627776 ∧ Reads w a bs ∧ bytesV bs
theorem RB.keep {w w' : World} {v : Value} {bs : List Value} (h : RB w v bs) (hc : Chg NoS w w') : RB w' v bs := by
  obtain ⟨a, n, c, h1, h2, h3, h4, h5⟩ := h
  exact ⟨a, n, c, h1, h2, h3, h4.chg hc (fun _ _ x => x), h5⟩

theorem Same_ok {w : World} {v1 v2 : Value} {xs ys : List Value} (h1 : RB w v1 xs) (h2 : RB w v2 ys) :
    Calls Try.prog 19 #[v1, v2] w (endW (fun v w' => ∃ b, v = .bool b ∧ (b = true ↔ xs = ys) ∧ Chg NoS w w') (fun _ _ => False)) := by
  obtain ⟨a1, n1, c1, rfl, hl1, hm1, hr1, hb1⟩ := h1
  obtain ⟨a2, n2, c2, rfl, hl2, hm2, hr2, hb2⟩ := h2
  refine F19_calls a1 n1 c1 a2 n2 c2 ?_
  unfold F19
  by_cases hn : n1 = n2
  · rw [if_neg (by simp [hn])]
    subst hn
    refine ⟨fun i w' => Chg NoS w w' ∧ 0 ≤ i ∧ i ≤ n1 ∧ ∀ j : Nat, (j : Int) < i → xs[j]? = ys[j]?, fun i _ => (n1 - i).toNat, ⟨0, ⟨rfl, trivial⟩, Chg.refl _ _, by omega, by omega, fun j hj => by omega⟩, ?_⟩
    rintro i w2 ⟨hc, hi0, hi1, hq⟩ _
    by_cases hi : i < n1
    · rw [if_pos (by simpa using hi)]
      obtain ⟨k, rfl⟩ := Int.eq_ofNat_of_zero_le hi0
      have hk1 : k < xs.length := by omega
      have hk2 : k < ys.length := by omega
      obtain ⟨x, hx⟩ := hb1 _ (List.getElem_mem hk1)
      obtain ⟨y, hy⟩ := hb2 _ (List.getElem_mem hk2)
      have hx' : xs[k]? = some (.int .u8 x.toNat) := by rw [List.getElem?_eq_getElem hk1, hx]
      have hy' : ys[k]? = some (.int .u8 y.toNat) := by rw [List.getElem?_eq_getElem hk2, hy]
      obtain ⟨A1, rfl, hc1⟩ := hr1 k _ hx'
      obtain ⟨A2, rfl, hc2⟩ := hr2 k _ hy'
      have hcd := hc.trans (chg_drew w2 NoS)
      have hw := wrap1 (k : Int) (by omega) (by omega)
      refine ⟨hi0, hi, hi0, hi, _, by simpa using cell_keep hc1 hcd, _, by simpa using cell_keep hc2 hcd, ?_⟩
      by_cases he : (x.toNat : Int) = y.toNat
      · rw [if_neg (by simp [he])]
        refine ⟨(k : Int) + 1, ⟨by rw [hw], trivial⟩, ⟨hcd, by omega, by omega, fun j hj => ?_⟩, by dsimp only; omega⟩
        by_cases hjk : j = k
        · subst hjk; rw [hx', hy', he]
        · exact hq j (by omega)
      · rw [if_pos (by simpa using he)]
        refine ⟨false, rfl, ⟨fun h => (by cases h), fun h => ?_⟩, hcd⟩
        rw [h, hy'] at hx'
        injection hx' with hx'
        injection hx' with _ hx'
        exact (he hx'.symm).elim
    · rw [if_neg (by simpa using hi)]
      refine ⟨true, rfl, ⟨fun _ => ?_, fun _ => rfl⟩, hc⟩
      apply List.ext_getElem?
      intro j
      by_cases hj : j < n1
      · exact hq j (by omega)
      · rw [List.getElem?_eq_none (by omega), List.getElem?_eq_none (by omega)]
  · rw [if_pos (by simp; omega)]
    refine ⟨false, rfl, ⟨fun h => (by cases h), fun h => ?_⟩, Chg.refl _ _⟩
    rw [h] at hl1
    omega

/-- A list of rows of bytes, read. -/
def LB (w : World) (v : Value) (L : List (List Value)) : Prop := ∃ a n c, v = .slice a n c ∧ L.length = n ∧ n ≤ 1099511627776 ∧ ∀ (j : Nat) (bs : List Value), L[j]? = some bs → ∃ A u, a = some A ∧ w.cell? (addK A j) = some u ∧ RB w u bs
theorem All_ok {w : World} {v1 v2 : Value} {xs ys : List (List Value)} (h1 : LB w v1 xs) (h2 : LB w v2 ys) :
    Calls Try.prog 14 #[v1, v2] w (endW (fun v w' => ∃ b, v = .bool b ∧ (b = true ↔ xs = ys) ∧ Chg NoS w w') (fun _ _ => False)) := by
  obtain ⟨a1, n1, c1, rfl, hl1, hm1, hr1⟩ := h1
  obtain ⟨a2, n2, c2, rfl, hl2, hm2, hr2⟩ := h2
  refine F14_calls a1 n1 c1 a2 n2 c2 ?_
  unfold F14
  by_cases hn : n1 = n2
  · rw [if_neg (by simp [hn])]
    subst hn
    refine ⟨fun i w' => Chg NoS w w' ∧ 0 ≤ i ∧ i ≤ n1 ∧ ∀ j : Nat, (j : Int) < i → xs[j]? = ys[j]?, fun i _ => (n1 - i).toNat, ⟨0, ⟨rfl, trivial⟩, Chg.refl _ _, by omega, by omega, fun j hj => by omega⟩, ?_⟩
    rintro i w2 ⟨hc, hi0, hi1, hq⟩ _
    by_cases hi : i < n1
    · rw [if_pos (by simpa using hi)]
      obtain ⟨k, rfl⟩ := Int.eq_ofNat_of_zero_le hi0
      have hk1 : k < xs.length := by omega
      have hk2 : k < ys.length := by omega
      have hcd := hc.trans (chg_drew w2 NoS)
      obtain ⟨A1, u1, rfl, hc1, hb1⟩ := hr1 k _ (List.getElem?_eq_getElem hk1)
      obtain ⟨A2, u2, rfl, hc2, hb2⟩ := hr2 k _ (List.getElem?_eq_getElem hk2)
      have hs := Same_ok (hb1.keep hcd) (hb2.keep hcd)
      obtain ⟨b1, m1, d1, rfl, _⟩ := hb1
      obtain ⟨b2, m2, d2, rfl, _⟩ := hb2
      have hw := wrap1 (k : Int) (by omega) (by omega)
      refine ⟨hi0, hi, hi0, hi, _, _, _, by simpa using cell_keep hc1 hcd, _, _, _, by simpa using cell_keep hc2 hcd, ?_⟩
      refine Calls.then hs ?_
      rintro v w3 ⟨b, rfl, hb, hc3⟩
      refine ⟨b, rfl, ?_⟩
      by_cases hbt : b = true
      · rw [if_neg (by simp [hbt])]
        refine ⟨(k : Int) + 1, ⟨by rw [hw], trivial⟩, ⟨hcd.trans hc3, by omega, by omega, fun j hj => ?_⟩, by dsimp only; omega⟩
        by_cases hjk : j = k
        · subst hjk; rw [List.getElem?_eq_getElem hk1, List.getElem?_eq_getElem hk2, hb.1 hbt]
        · exact hq j (by omega)
      · rw [if_pos (by simpa using hbt)]
        refine ⟨false, rfl, ⟨fun h => (by cases h), fun h => ?_⟩, hcd.trans hc3⟩
        subst h
        exact (hbt (hb.2 rfl)).elim
    · rw [if_neg (by simpa using hi)]
      refine ⟨true, rfl, ⟨fun _ => ?_, fun _ => rfl⟩, hc⟩
      apply List.ext_getElem?
      intro j
      by_cases hj : j < n1
      · exact hq j (by omega)
      · rw [List.getElem?_eq_none (by omega), List.getElem?_eq_none (by omega)]
  · rw [if_pos (by simp; omega)]
    refine ⟨false, rfl, ⟨fun h => (by cases h), fun h => ?_⟩, Chg.refl _ _⟩
    rw [h] at hl1
    omega
end Go.Proofs.Ytcfagkmkfjhhiaa.B
