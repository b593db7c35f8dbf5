/-
  LineFull: the plain law.
-/
import Derived.Test.YtooebmpjmcmkoaaLinT
set_option maxRecDepth 100000
set_option linter.unusedVariables false
set_option linter.unusedSimpArgs false
namespace Go.Proofs.Ytooebmpjmcmkoaa.B
open Go Go.Proofs Go.Proofs.YtooebmpjmcmkoaaEng

def frow (i : Nat) : List UInt8 := [by8 i, by8 (i / 2 ^ 8)]
def frows (n : Nat) : List (List UInt8) := (List.range n).map frow
theorem frows_len (n : Nat) : (frows n).length = n := by simp [frows]
theorem frows_succ (n : Nat) : frows (n + 1) = frows n ++ [frow n] := by simp [frows, List.range_succ]
theorem frows_two {n : Nat} : ∀ x ∈ frows n, x.length = 2 := by
  intro x hx
  simp only [frows, List.mem_map] at hx
  obtain ⟨i, _, rfl⟩ := hx
  rfl
theorem frows_get {n i : Nat} (h : i < n) : (frows n)[i]? = some (frow i) := by simp [frows, h]
theorem body_two {l : List (List UInt8)} (h : ∀ x ∈ l, x.length = 2) : (body l).length = 4 * l.length := by
  induction l with
  | nil => rfl
  | cons m l ih =>
    have := h m List.mem_cons_self
    have e : body (m :: l) = be2 m.length ++ (m ++ body l) := by simp [body]
    rw [e]
    simp only [List.length_append, List.length_cons, ih fun x hx => h x (List.mem_cons_of_mem _ hx)]
    simp [be2]
    omega
theorem fit_two {l : List (List UInt8)} (h : ∀ x ∈ l, x.length = 2) : ∀ (f i : Nat), i + f ≤ l.length → i + f ≤ 32 → fitFrom l f i = i + f
  | 0, i, h1, h2 => rfl
  | f + 1, i, h1, h2 => by
    unfold fitFrom
    have hi : i < l.length := by omega
    have hb : (body (l.take i)).length = 4 * i := by
      rw [body_two fun x hx => h x (List.mem_of_mem_take hx), List.length_take]
      omega
    have h2' := h _ (List.getElem_mem hi)
    rw [dif_pos hi, if_pos (by omega), fit_two h f (i + 1) (by omega) (by omega)]
    omega
def fA (k : Nat) : Lm := ⟨0, (frows 4096).drop (32 * k), 32 * k, 0, []⟩
def fB (k : Nat) : Lm := ⟨0, [], 0, 32 * k, []⟩
def fC (k : Nat) : Lm := ⟨0, [], 0, 32 * k + 32, ((frows 4096).drop (32 * k)).take 32⟩
theorem fA_two (k : Nat) : ∀ x ∈ (fA k).sent, x.length = 2 := fun x hx => frows_two x (List.mem_of_mem_drop hx)
theorem fA_len (k : Nat) : (fA k).sent.length = 4096 - 32 * k := by show ((frows 4096).drop (32 * k)).length = _; rw [List.length_drop, frows_len]
theorem fA_wf {k : Nat} (h : k ≤ 128) : (fA k).wf := ⟨by show 0 < _; omega, by show 32 * k < _; omega, by show 0 < _; omega, by rw [fA_len]; omega, fun x hx => by rw [fA_two k x hx]; omega⟩
theorem fB_wf {k : Nat} (h : k ≤ 128) : (fB k).wf := ⟨by show 0 < _; omega, by show 0 < _; omega, by show 32 * k < _; omega, by show 0 ≤ _; omega, fun x hx => by cases hx⟩
theorem fA_out {k : Nat} (h : k < 128) : (fA k).out = 32 := fit_two (fA_two k) 32 0 (by rw [fA_len]; omega) (by omega)
theorem fTake1 {k : Nat} (h : k < 128) : (fB k).take (S.sealed (fA k).payload) = (0, fC k) := by
  rw [take_payload (fA_wf (by omega)), fA_out h]
  unfold Lm.hear
  rw [if_neg (by show ¬ 0 < 0; omega)]
  have h1 : (fB k).heard ⟨(fA k).ep, (fA k).come, (fA k).got, (fA k).sent.take 32⟩ = fB k := by
    unfold Lm.heard
    rw [if_neg (by show ¬ 0 < 0; omega)]
  rw [h1]
  have h2 : (fB k).acks (fA k).come = fB k := by
    unfold Lm.acks
    rw [if_neg (by show ¬ (0 < 0 ∧ _); omega)]
  dsimp only
  have hl : ((fA k).sent.take 32).length = 32 := by rw [List.length_take, fA_len]; omega
  have hg : (fA k).got = 32 * k := rfl
  have hf := feed_on ((fA k).sent.take 32) (32 * k) 0 (fB k) rfl (by rw [hl]; show 32 * k + 32 < _; omega)
  rw [h2, hg, hf, hl]
  rfl
theorem fTake2 {k : Nat} (h : k < 128) : (fA k).take (S.sealed (fB (k + 1)).payload) = (0, fA (k + 1)) := by
  rw [take_payload (fB_wf (by omega))]
  unfold Lm.hear
  rw [if_neg (by show ¬ 0 < 0; omega)]
  have ho : (fB (k + 1)).sent.take (fB (k + 1)).out = [] := by show ([] : List (List UInt8)).take _ = []; simp
  rw [ho]
  have h1 : (fA k).heard ⟨(fB (k + 1)).ep, (fB (k + 1)).come, (fB (k + 1)).got, []⟩ = fA k := by
    unfold Lm.heard
    rw [if_neg (by show ¬ 0 < 0; omega)]
  rw [h1]
  have h2 : (fA k).acks (fB (k + 1)).come = fA (k + 1) := by
    unfold Lm.acks
    have hg : (fA k).got = 32 * k := rfl
    have hc : (fB (k + 1)).come = 32 * (k + 1) := rfl
    rw [fA_len, hg, hc, if_pos (by omega)]
    have hd : (fA k).sent.drop (32 * (k + 1) - 32 * k) = (frows 4096).drop (32 * (k + 1)) := by
      show ((frows 4096).drop (32 * k)).drop _ = _
      rw [List.drop_drop]
      congr 1
      omega
    rw [hd]
    rfl
  dsimp only
  rw [h2]
  rfl
end Go.Proofs.Ytooebmpjmcmkoaa.B
