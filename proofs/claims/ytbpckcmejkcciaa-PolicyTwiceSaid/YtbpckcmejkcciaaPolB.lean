/-
  Policies: widths, fields; depth and size as the program reckons them.
-/
import Derived.Test.YtbpckcmejkcciaaPolA
import Derived.Test.YtbpckcmejkcciaaBA
set_option linter.unusedVariables false
set_option linter.unusedSimpArgs false
namespace Go.Proofs.Ytbpckcmejkcciaa.B
open Go Go.Proofs Go.Proofs.YtbpckcmejkcciaaEng

/-- a block of the call's own that is being written -/
def Mine (w0 w : World) (b : Nat) (cs : Array Value) (t : TypeId) : Prop := w.heap[b]? = some (.cells cs t (0, 0)) ∧ Chg NoS w0 w ∧ w0.heap.size ≤ b
theorem mine_alloc {w0 w : World} (h : Chg NoS w0 w) (cs : Array Value) (t : TypeId) : Mine w0 (w.alloc (.cells cs t)) w.heap.size cs t := ⟨blk_alloc w _, h.trans (chg_alloc w _ NoS), h.size⟩
theorem Mine.set {w0 w : World} {b i : Nat} {cs : Array Value} {t : TypeId} {v : Value} {K : World → Prop} (h : Mine w0 w b cs t) (hi : i < cs.size) (hv : oneC v = true) (hK : ∀ w', Mine w0 w' b (cs.setIfInBounds i v) t → K w') : setW w ⟨b, i, none⟩ v K :=
  setW_blk h.1 hi hv fun w' h1 h2 _ => hK w' ⟨h1, h.2.1.trans2 h2 (fun k hk e => by have : k = b := e; have := h.2.2; omega), h.2.2⟩
theorem Mine.cell {w0 w : World} {b : Nat} {cs : Array Value} {t : TypeId} (h : Mine w0 w b cs t) (i : Nat) : w.cell? ⟨b, i, none⟩ = cs[i]? := cell_blk h.1 i
theorem Mine.keep {w0 w w' : World} {b : Nat} {cs : Array Value} {t : TypeId} (h : Mine w0 w b cs t) (hc : Chg NoS w w') : Mine w0 w' b cs t := ⟨hc.blk h.1 (fun x => x), h.2.1.trans hc, h.2.2⟩

theorem Widths_ok (w : World) : Calls Try.prog 34 #[] w (endW (fun v w' => v = .agg #[.int .i64 48, .int .i64 48, .int .i64 16, .int .i64 12, .int .i64 32, .int .i64 32, .int .i64 8, .int .i64 16, .int .i64 16, .int .i64 16, .int .i64 16] ∧ Chg NoS w w') (fun _ _ => False)) := by
  refine F34_calls ?_
  delta F34
  simp only [addK_lit, Nat.zero_add]
  refine Mine.set (mine_alloc (Chg.refl NoS w) _ _) (by simp) rfl ?_
  intro w1 h1
  refine Mine.set h1 (by simp) rfl ?_
  intro w2 h2
  refine Mine.set h2 (by simp) rfl ?_
  intro w3 h3
  refine Mine.set h3 (by simp) rfl ?_
  intro w4 h4
  refine Mine.set h4 (by simp) rfl ?_
  intro w5 h5
  refine Mine.set h5 (by simp) rfl ?_
  intro w6 h6
  refine Mine.set h6 (by simp) rfl ?_
  intro w7 h7
  refine Mine.set h7 (by simp) rfl ?_
  intro w8 h8
  refine Mine.set h8 (by simp) rfl ?_
  intro w9 h9
  refine Mine.set h9 (by simp) rfl ?_
  intro w10 h10
  refine Mine.set h10 (by simp) rfl ?_
  intro w11 h11
  refine ⟨_, (h11.cell 0).trans rfl, _, (h11.cell 1).trans rfl, _, (h11.cell 2).trans rfl, _, (h11.cell 3).trans rfl, _, (h11.cell 4).trans rfl, _, (h11.cell 5).trans rfl, _, (h11.cell 6).trans rfl, _, (h11.cell 7).trans rfl, _, (h11.cell 8).trans rfl, _, (h11.cell 9).trans rfl, _, (h11.cell 10).trans rfl, rfl, h11.2.1⟩
theorem Width_ok (w : World) (f : Int) : Calls Try.prog 22 #[.int .i8 f] w (endW (fun v w' => v = .int .i64 (widthS f) ∧ Chg NoS w w') (fun _ _ => False)) := by
  refine F22_calls f ?_
  delta F22
  by_cases h0 : f < 0
  · rw [if_neg (by simpa using h0)]
    refine ⟨?_, Chg.refl _ _⟩
    unfold widthS
    rw [if_neg (by omega), if_neg (by omega), if_neg (by omega), if_neg (by omega), if_neg (by omega)]
    rfl
  rw [if_pos (by simpa using h0)]
  by_cases h11 : 11 ≤ f
  · rw [if_pos (by simpa using h11)]
    refine ⟨?_, Chg.refl _ _⟩
    unfold widthS
    rw [if_neg (by omega), if_neg (by omega), if_neg (by omega), if_neg (by omega), if_neg (by omega)]
    rfl
  rw [if_neg (by simpa using h11)]
  refine Calls.then (Widths_ok w) ?_
  rintro v w' ⟨rfl, hc⟩
  refine ⟨[_, _, _, _, _, _, _, _, _, _, _], rfl, _, _, rfl, _, rfl, _, _, rfl, _, rfl, _, _, rfl, _, rfl, _, _, rfl, _, rfl, _, _, rfl, _, rfl, _, _, rfl, _, rfl, _, _, rfl, _, rfl, _, _, rfl, _, rfl, _, _, rfl, _, rfl, _, _, rfl, _, rfl, _, _, rfl, _, rfl, rfl, by omega, by omega, by simp; omega, ?_, hc⟩
  obtain ⟨k, rfl⟩ := Int.eq_ofNat_of_zero_le (show 0 ≤ f by omega)
  have hk : k < 11 := by omega
  match k, hk with
  | 0, _ => rfl
  | 1, _ => rfl
  | 2, _ => rfl
  | 3, _ => rfl
  | 4, _ => rfl
  | 5, _ => rfl
  | 6, _ => rfl
  | 7, _ => rfl
  | 8, _ => rfl
  | 9, _ => rfl
  | 10, _ => rfl

theorem fdiv0 {n : Int} {k : Nat} (h0 : 0 ≤ n) : Int.fdiv n ((2 : Int) ^ k) = 0 ↔ n < 2 ^ k := by
  have hp : (0 : Int) < 2 ^ k := Int.pow_pos (by omega)
  rw [Int.fdiv_eq_ediv_of_nonneg _ (by omega)]
  constructor
  · intro h
    rcases Int.lt_or_le n (2 ^ k) with h1 | h1
    · exact h1
    · have := Int.le_ediv_of_mul_le hp (show 1 * (2 : Int) ^ k ≤ n by omega)
      omega
  · exact fun h => Int.ediv_eq_zero_of_lt h0 h
theorem widthS_le (f : Int) : widthS f ≤ 48 := by
  unfold widthS
  repeat' split
  all_goals omega
/-- what 'field' tells -/
def fieldS (op f n : Int) : Bool := fitsS f n && decide (f ≠ 3) && (if f = 2 ∨ f = 6 ∨ f = 10 then decide (op = 2) else if f = 9 then decide (op = 2 ∨ n ≠ 0) else true)
theorem fieldS_is (f n : Int) : fieldS 2 f n = (fitsS f n && decide (f ≠ 3)) := by
  unfold fieldS
  split
  · simp
  · split <;> simp
theorem fieldS_set (f n : Int) : fieldS 7 f n = (mayS f n && fitsS f n) := by
  unfold fieldS
  by_cases hf : fitsS f n = true
  · have h0 : 0 < widthS f := by
      unfold fitsS at hf
      simp at hf
      exact hf.1
    have hr : f = 0 ∨ f = 1 ∨ f = 2 ∨ f = 3 ∨ f = 4 ∨ f = 5 ∨ f = 6 ∨ f = 7 ∨ f = 8 ∨ f = 9 ∨ f = 10 := by
      refine Classical.byContradiction fun h => ?_
      have : widthS f = 0 := by
        unfold widthS
        rw [if_neg (by omega), if_neg (by omega), if_neg (by omega), if_neg (by omega), if_neg (by omega)]
      omega
    rw [hf]
    unfold mayS
    rcases hr with rfl | rfl | rfl | rfl | rfl | rfl | rfl | rfl | rfl | rfl | rfl <;> simp
  · simp at hf
    rw [hf]
    simp
theorem Field_ok {w : World} {A : Addr} {op f n : Int} {b : Option Addr} {m c : Nat} (h0 : w.cell? (addK A 0) = some (.int .i8 op)) (h1 : w.cell? (addK A 1) = some (.int .i8 f)) (h2 : w.cell? (addK A 2) = some (.int .u64 n)) (hn : 0 ≤ n) :
    Calls Try.prog 38 #[.pointer (some A)] w (endW (fun v w' => v = .bool (fieldS op f n) ∧ Chg NoS w w') (fun _ _ => False)) := by
  refine F38_calls (some A) ?_
  delta F38
  refine ⟨_, h1, ?_⟩
  refine Calls.then (Width_ok w f) ?_
  rintro v w1 ⟨rfl, hc1⟩
  refine ⟨_, rfl, ?_⟩
  have k0 := cell_keep h0 hc1
  have k1 := cell_keep h1 hc1
  have k2 := cell_keep h2 hc1
  have hw := widthS_le f
  refine ⟨fun _ w2 => w2 = w1 ∧ fitsS f n = true, ?_, ?_⟩
  · rintro _ w2 ⟨rfl, hfit⟩ _
    refine ⟨_, k1, ?_⟩
    by_cases h3 : f = 3
    · rw [if_pos (by simpa using h3)]
      refine ⟨?_, hc1⟩
      unfold fieldS
      simp [h3]
    rw [if_neg (by simpa using h3)]
    refine ⟨fun s w3 => w3 = w2 ∧ s = decide (f = 2 ∨ f = 6 ∨ f = 10), ?_, ?_⟩
    · rintro s w3 ⟨rfl, rfl⟩ _
      by_cases hk : f = 2 ∨ f = 6 ∨ f = 10
      · rw [if_pos (by simpa using hk)]
        refine ⟨_, k0, ?_, hc1⟩
        unfold fieldS
        rw [hfit, if_pos hk]
        by_cases hop : op = 2 <;> simp [h3, hop]
      rw [if_neg (by simpa using hk)]
      by_cases h9 : f = 9
      · rw [if_pos (by simpa using h9)]
        refine ⟨_, k0, ?_⟩
        by_cases hop : op = 2
        · rw [if_neg (by simp [hop])]
          refine ⟨?_, hc1⟩
          unfold fieldS
          rw [hfit, if_neg hk, if_pos h9]
          simp [h3, hop]
        · rw [if_pos (by simp [hop])]
          refine ⟨_, k2, ?_, hc1⟩
          unfold fieldS
          rw [hfit, if_neg hk, if_pos h9]
          by_cases hn0 : n = 0 <;> simp [h3, hop, hn0]
      · rw [if_neg (by simpa using h9)]
        refine ⟨?_, hc1⟩
        unfold fieldS
        rw [hfit, if_neg hk, if_neg h9]
        simp [h3]
    · by_cases e2 : f = 2
      · rw [if_pos (by simpa using e2)]
        exact ⟨_, ⟨rfl, trivial⟩, rfl, by simp [e2]⟩
      rw [if_neg (by simpa using e2)]
      by_cases e6 : f = 6
      · rw [if_pos (by simpa using e6)]
        exact ⟨_, ⟨rfl, trivial⟩, rfl, by simp [e6]⟩
      rw [if_neg (by simpa using e6)]
      exact ⟨_, ⟨rfl, trivial⟩, rfl, by by_cases e10 : f = 10 <;> simp [e2, e6, e10]⟩
  · by_cases hz : widthS f = 0
    · rw [if_neg (by simp [hz])]
      refine ⟨?_, hc1⟩
      unfold fieldS fitsS
      simp [hz]
    · rw [if_pos (by simp; omega)]
      have hu : IntKind.wrap .u64 ((widthS f : Nat) : Int) = ((widthS f : Nat) : Int) := u64w _ (by omega) (by omega)
      refine ⟨_, k2, by rw [hu]; omega, ?_⟩
      rw [hu, Int.toNat_natCast, Nat.min_eq_left (by omega)]
      by_cases hlt : n < 2 ^ widthS f
      · rw [if_neg (by simp [(fdiv0 hn).2 hlt])]
        exact ⟨(), trivial, rfl, by unfold fitsS; simp [hlt]; omega⟩
      · rw [if_pos (by simpa using fun e => hlt ((fdiv0 hn).1 e))]
        refine ⟨?_, hc1⟩
        unfold fieldS fitsS
        simp [hlt]

theorem Deep_ok : ∀ (left : Nat) (t : Tm) (A : Addr) (w : World), left ≤ 128 → TmP w t A → Calls Try.prog 36 #[.pointer (some A), .int .i64 left] w (endW (fun v w' => v = .bool (decide (left < tdepth t)) ∧ w' = w) (fun _ _ => False))
  | 0, t, A, w, _, h => by
    refine F36_calls (some A) _ ?_
    delta F36
    rw [if_pos (by simp)]
    refine ⟨?_, rfl⟩
    obtain ⟨op, f, n, ks⟩ := t
    simp [tdepth]
  | left + 1, t, A, w, hl, h => by
    refine F36_calls (some A) _ ?_
    delta F36
    rw [if_neg (by simp; omega)]
    obtain ⟨op, f, n, b, m, c, h0, h1, h2, h3, hv⟩ := h
    obtain ⟨ks, rfl, hlen, _, hcm, _, hk⟩ := hv.parts
    refine ⟨_, _, _, h3, ?_⟩
    refine ⟨fun s w' => w' = w ∧ 0 ≤ s ∧ s ≤ m ∧ ldepth (ks.take s.toNat) ≤ left, fun s _ => (m - s).toNat, ⟨0, ⟨rfl, trivial⟩, rfl, by omega, by omega, by simp [ldepth]⟩, ?_⟩
    rintro s w' ⟨rfl, hs0, hs1, hd⟩ _
    obtain ⟨j, rfl⟩ := Int.eq_ofNat_of_zero_le hs0
    simp only [Int.toNat_natCast] at *
    by_cases hs : (j : Int) < m
    · rw [if_pos (by simpa using hs)]
      have hj : j < ks.length := by omega
      obtain ⟨B, rfl, hB⟩ := hk j _ (List.getElem?_eq_getElem hj)
      refine ⟨_, _, _, h3, by omega, by omega, ?_⟩
      rw [i64w _ (by omega) (by omega), show (((left + 1 : Nat) : Int) - 1) = (left : Int) from by omega]
      refine Calls.then (Deep_ok left _ _ w' (by omega) hB) ?_
      rintro v w2 ⟨rfl, rfl⟩
      refine ⟨_, rfl, ?_⟩
      by_cases hlt : left < tdepth ks[j]
      · rw [if_pos (by simpa using hlt)]
        refine ⟨?_, rfl⟩
        have := tdepth_le (List.getElem_mem hj)
        simp [tdepth]
        omega
      · rw [if_neg (by simpa using hlt)]
        refine ⟨(j : Int) + 1, ⟨by rw [i64w _ (by omega) (by omega)], trivial⟩, ⟨by trivial, by omega, by omega, ?_⟩, by omega⟩
        rw [show ((j : Int) + 1).toNat = j + 1 from by omega, List.take_add_one, List.getElem?_eq_getElem hj, ldepth_append]
        simp [ldepth]
        omega
    · rw [if_neg (by simpa using hs)]
      refine ⟨?_, by trivial⟩
      rw [List.take_of_length_le (by omega)] at hd
      simp [tdepth]
      omega
end Go.Proofs.Ytbpckcmejkcciaa.B
