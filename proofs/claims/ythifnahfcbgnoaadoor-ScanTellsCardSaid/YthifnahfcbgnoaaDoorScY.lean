/-
  scan: ScanTells.
-/
import Derived.Test.YthifnahfcbgnoaaDoorScX
set_option maxRecDepth 100000
set_option linter.unusedVariables false
set_option linter.unusedSimpArgs false
namespace Go.Proofs.YthifnahfcbgnoaaDoor.B
open Go Go.Proofs Go.Proofs.YthifnahfcbgnoaaDoorEng Go.RowKit

theorem scan_ne0 (t : List UInt8) (k : Nat) (ws : List Wd) (x : Nat × Nat × List UInt8) (h : scan t k ws = .inr x) : x.1 ≠ 0 := by
  by_cases hlt : sk t false k < t.length
  · cases ho : oneAt t (sk t false k) with
    | bad e j =>
      rw [scan_bad hlt ho] at h
      cases h
      exact one_bad0 ho
    | ok kd j m =>
      rw [scan_go hlt ho] at h
      have hle := one_le ho hlt
      have hsk := sk_le t false k
      exact scan_ne0 t j _ x h
  · rw [scan_end hlt] at h
    cases h
termination_by t.length - k
decreasing_by omega
theorem allR_ne0 {t : List UInt8} {x : Nat × Nat × List UInt8} (h : allR t = .inr x) : x.1 ≠ 0 := by
  unfold allR at h
  split at h
  · cases h; decide
  · split at h
    · cases h
    · rename_i hx
      cases h
      exact scan_ne0 _ _ _ _ hx
theorem allR_len {t : List UInt8} {ws : List Wd} (h : allR t = .inl ws) : ws.length < 1000000 := by
  unfold allR at h
  split at h
  · cases h
  · split at h
    · rename_i hx
      obtain ⟨r, e, hg⟩ := scan_good t 0 [] _ hx
      have := good_len hg
      cases h
      simp only [List.length_append, List.length_cons, List.length_nil, e]
      omega
    · cases h
theorem tells_ok (w : World) (t : List UInt8) (hL : Libs w) : Calls Tryd.prog 3 #[.string (bs t)] w (endW (fun v w' => v = .bool true ∧ Chg NoS w w') (fun _ _ => False)) := by
  refine F3_calls _ ?_
  delta F3
  refine Calls.then (All_ok w t hL.1) ?_
  rintro v w1 ⟨hc1, hv⟩
  have fin : ∀ w' : World, Chg NoS w w' → Calls Tryd.prog 11 #[] w' (endW (fun (v : Value) (w' : World) => ∃ b, v = .bool b ∧ (.bool b = Value.bool true ∧ Chg NoS w w')) (fun _ _ => False)) := fun w' hc => wake_end (hL.chg hc) hc
  cases hr : allR t with
  | inl ws =>
    rw [hr] at hv
    obtain ⟨a, n, c, rfl, ho, hn⟩ := hv
    refine ⟨_, rfl, _, _, rfl, _, _, _, rfl, _, _, rfl, rfl, ?_⟩
    refine Calls.then (rAll_ok w1 t) ?_
    rintro v w2 ⟨hc2, hv2⟩
    rw [hr] at hv2
    obtain ⟨a2, n2, c2, rfl, ho2, hn2⟩ := hv2
    refine ⟨_, rfl, _, _, rfl, _, _, _, rfl, _, _, rfl, _, rfl, _, _, rfl, _, rfl, _, _, rfl, _, rfl, _, _, rfl, _, rfl, rfl, rfl, ?_⟩
    refine retF ⟨_, _, _, blk_alloc w2 F29o⟩ fun w3 hc3 => ?_
    have hc13 : Chg NoS w2 w3 := (chg_alloc w2 F29o NoS).trans2 hc3 fun b hb hx => by have : b = w2.heap.size := hx; omega
    refine Calls.then (told_nil w3) ?_
    rintro v w4 ⟨rfl, hc4⟩
    refine ⟨_, rfl, ?_⟩
    rw [if_pos rfl]
    have hc24 := hc13.trans hc4
    have hc14 := hc2.trans hc24
    refine Calls.then (words_ok (own_of_chg ho hc14 fun _ _ x => x) (own_of_chg ho2 hc24 fun _ _ x => x) hn hn2 (allR_len hr)) ?_
    rintro v w5 ⟨rfl, hc5⟩
    refine ⟨_, rfl, ?_⟩
    rw [if_pos rfl]
    exact fin w5 ((hc1.trans hc14).trans hc5)
  | inr x =>
    rw [hr] at hv
    obtain ⟨b, rfl, hb0, hb⟩ := hv
    have hx := allR_ne0 hr
    obtain ⟨code, pos, txt⟩ := x
    refine ⟨_, rfl, _, _, rfl, _, _, _, rfl, _, _, rfl, rfl, ?_⟩
    refine Calls.then (rAll_ok w1 t) ?_
    rintro v w2 ⟨hc2, hv2⟩
    rw [hr] at hv2
    subst hv2
    refine ⟨_, rfl, _, _, rfl, _, _, _, rfl, _, _, rfl, _, rfl, _, _, rfl, _, rfl, _, _, rfl, _, rfl, _, _, rfl, _, rfl, rfl, rfl, ?_⟩
    refine retF ⟨_, _, _, blk_alloc w2 F29o⟩ fun w3 hc3 => ?_
    have hc13 : Chg NoS w2 w3 := (chg_alloc w2 F29o NoS).trans2 hc3 fun b hb hx => by have : b = w2.heap.size := hx; omega
    have hc03 := (hc1.trans hc2).trans hc13
    refine Calls.then (told_same b code pos txt w3 ((hc2.trans hc13).blk hb fun x => x) hx (hL.chg hc03)) ?_
    rintro v w4 ⟨rfl, hc4⟩
    refine ⟨_, rfl, ?_⟩
    rw [if_pos rfl]
    refine Calls.then (words_ok (ws := []) (own_nil' w4 0 _ _) (own_nil' w4 0 _ _) rfl rfl (by decide)) ?_
    rintro v w5 ⟨rfl, hc5⟩
    refine ⟨_, rfl, ?_⟩
    rw [if_pos rfl]
    exact fin w5 ((hc03.trans hc4).trans hc5)
theorem ScanTells_walk (s0 : ByteArray) (w : World) (i0 : Is maxLen Tryd.prog w 12 9 [.string s0]) (hL : Libs w) : Calls Tryd.prog 3 #[.string s0] w (endW (fun v w' => v = .bool true ∧ Chg NoS w w') (fun _ _ => False)) := by
  rw [← bs_data s0]
  exact tells_ok w _ hL
end Go.Proofs.YthifnahfcbgnoaaDoor.B
