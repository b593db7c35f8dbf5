/-
  scan: letters, digits; how far a run goes.
-/
import Derived.Test.YthifnahfcbgnoaaDoorBA
import Derived.Test.YthifnahfcbgnoaaDoorEngV
set_option maxRecDepth 100000
set_option linter.unusedVariables false
set_option linter.unusedSimpArgs false
namespace Go.Proofs.YthifnahfcbgnoaaDoor.B
open Go Go.Proofs Go.Proofs.YthifnahfcbgnoaaDoorEng Go.RowKit

theorem ite_both {c : Prop} [Decidable c] {A B : Prop} (h1 : c → A) (h2 : ¬ c → B) : if c then A else B := by
  by_cases h : c
  · rw [if_pos h]; exact h1 h
  · rw [if_neg h]; exact h2 h
/-- the byte at a place (0 behind the end) -/
def g (t : List UInt8) (k : Nat) : Nat := (t.getD k 0).toNat
theorem g_lt (t : List UInt8) (k : Nat) : g t k < 256 := (t.getD k 0).toNat_lt
theorem g_at (t : List UInt8) (k : Nat) : byteAt (bs t) (k : Int) = (g t k : Int) := byteAt_bs t k
def isDig (c : Nat) : Bool := decide (48 ≤ c ∧ c ≤ 57)
def isLet (c : Nat) : Bool := decide ((65 ≤ c ∧ c ≤ 90) ∨ (97 ≤ c ∧ c ≤ 122) ∨ c = 95)
def isAl (c : Nat) : Bool := isLet c || isDig c
def isHex (c : Nat) : Bool := decide ((48 ≤ c ∧ c ≤ 57) ∨ (97 ≤ c ∧ c ≤ 102) ∨ (65 ≤ c ∧ c ≤ 70))
def hv (c : Nat) : Nat := if 48 ≤ c ∧ c ≤ 57 then c - 48 else if 97 ≤ c ∧ c ≤ 102 then c - 87 else c - 55
theorem hv_lt {c : Nat} (h : isHex c = true) : hv c < 16 := by
  simp only [isHex, decide_eq_true_eq] at h
  unfold hv
  split
  · omega
  · split <;> omega
abbrev Says (b : Bool) (w : World) : Value → World → Prop := fun v w' => v = .bool b ∧ w' = w
theorem says_of {w : World} {x y : Bool} (h : x = y) : Says y w (.bool x) w := ⟨by rw [h], rfl⟩
theorem isDig_iff (c : Nat) : (isDig c = true) = (48 ≤ c ∧ c ≤ 57) := by simp [isDig]
theorem digit_ok (w : World) (c : Nat) : Calls Tryd.prog 18 #[.int .u8 (c : Int)] w (endW (Says (isDig c) w) (fun _ _ => False)) := by
  refine F18_calls _ ?_
  delta F18
  refine ite_both (fun h => ?_) (fun h => ?_) <;> (simp at h; refine says_of (Bool.eq_iff_iff.2 ?_); simp [isDig]; omega)
theorem rdigit_ok (w : World) (c : Nat) : Calls Tryd.prog 26 #[.int .u8 (c : Int)] w (endW (Says (isDig c) w) (fun _ _ => False)) := by
  refine F26_calls _ ?_
  delta F26
  refine ite_both (fun h => ?_) (fun h => ?_) <;> (simp at h; refine says_of (Bool.eq_iff_iff.2 ?_); simp [isDig]; omega)
theorem beq95 (c : Nat) : (((c : Int) == 95) : Bool) = decide (c = 95) := by
  by_cases h : c = 95
  · subst h; rfl
  · have : ¬ (c : Int) = 95 := by omega
    simp [h, this]
theorem letter_ok (w : World) (c : Nat) : Calls Tryd.prog 20 #[.int .u8 (c : Int)] w (endW (Says (isLet c) w) (fun _ _ => False)) := by
  refine F20_calls _ ?_
  delta F20
  repeat' (first
    | refine ite_both (fun _ => ?_) (fun _ => ?_)
    | (refine says_of (Bool.eq_iff_iff.2 ?_); simp [isLet] at *; omega))
theorem rletter_ok (w : World) (c : Nat) : Calls Tryd.prog 28 #[.int .u8 (c : Int)] w (endW (Says (isLet c) w) (fun _ _ => False)) := by
  refine F28_calls _ ?_
  delta F28
  repeat' (first
    | refine ite_both (fun _ => ?_) (fun _ => ?_)
    | (refine says_of (Bool.eq_iff_iff.2 ?_); simp [isLet] at *; omega))
theorem alnum_ok (w : World) (c : Nat) : Calls Tryd.prog 22 #[.int .u8 (c : Int)] w (endW (Says (isAl c) w) (fun _ _ => False)) := by
  refine F22_calls _ ?_
  delta F22
  refine Calls.then (letter_ok w c) ?_
  rintro v w1 ⟨rfl, rfl⟩
  refine ⟨_, rfl, ?_⟩
  refine ite_both (fun h => ?_) (fun h => ?_)
  · refine Calls.then (digit_ok w1 c) ?_
    rintro v w2 ⟨rfl, rfl⟩
    exact ⟨_, rfl, says_of (by simp [isAl, h])⟩
  · exact says_of (by simp at h; simp [isAl, h])
theorem hex_ok (w : World) (c : Nat) : Calls Tryd.prog 36 #[.int .u8 (c : Int)] w (endW (Says (isHex c) w) (fun _ _ => False)) := by
  refine F36_calls _ ?_
  delta F36
  refine Calls.then (digit_ok w c) ?_
  rintro v w1 ⟨rfl, rfl⟩
  refine ⟨_, rfl, ?_⟩
  by_cases hd : 48 ≤ c ∧ c ≤ 57
  · rw [if_neg (by simp [isDig]; omega)]
    exact says_of (by simp [isHex]; omega)
  · rw [if_pos (by simp [isDig]; omega)]
    repeat' (first
      | refine ite_both (fun _ => ?_) (fun _ => ?_)
      | (refine says_of (Bool.eq_iff_iff.2 ?_); simp [isHex] at *; omega))
theorem value_ok (w : World) (c : Nat) (hc : c < 256) : Calls Tryd.prog 43 #[.int .u8 (c : Int)] w (endW (fun v w' => v = .int .i64 (if isHex c = true then (hv c : Int) else -1) ∧ w' = w) (fun _ _ => False)) := by
  refine F43_calls _ ?_
  delta F43
  refine Calls.then (rdigit_ok w c) ?_
  rintro v w1 ⟨rfl, rfl⟩
  refine ⟨_, rfl, ?_⟩
  have fin : ∀ x : Int, (if isHex c = true then (hv c : Int) else -1) = x → (Value.int .i64 x = .int .i64 (if isHex c = true then (hv c : Int) else -1) ∧ w1 = w1) := fun x h => ⟨by rw [h], rfl⟩
  have sub : ∀ k : Nat, k ≤ c → IntKind.wrap .u8 ((c : Int) - (k : Int)) = ((c - k : Nat) : Int) := fun k hk => by rw [IntWalk.u8_in _ (by omega)]; omega
  by_cases hd : 48 ≤ c ∧ c ≤ 57
  · rw [if_pos (by simp [isDig]; omega)]
    refine fin _ ?_
    rw [if_pos (by simp [isHex]; omega), show (48 : Int) = ((48 : Nat) : Int) from rfl, sub 48 (by omega), i64w _ (by omega) (by omega)]
    simp [hv, hd]
  · rw [if_neg (by simp [isDig]; omega)]
    by_cases ha : 97 ≤ c ∧ c ≤ 102
    · rw [if_pos (by simp; omega), if_pos (by simp; omega)]
      refine fin _ ?_
      rw [if_pos (by simp [isHex]; omega), show (97 : Int) = ((97 : Nat) : Int) from rfl, sub 97 (by omega), i64w ((c - 97 : Nat) : Int) (by omega) (by omega), i64w _ (by omega) (by omega)]
      simp only [hv, hd, ha, and_self, if_true, if_false]
      omega
    · by_cases hA : 65 ≤ c ∧ c ≤ 70
      · rw [if_neg (by simp; omega), if_pos (by simp; omega), if_pos (by simp; omega)]
        refine fin _ ?_
        rw [if_pos (by simp [isHex]; omega), show (65 : Int) = ((65 : Nat) : Int) from rfl, sub 65 (by omega), i64w ((c - 65 : Nat) : Int) (by omega) (by omega), i64w _ (by omega) (by omega)]
        simp only [hv, hd, ha, if_false]
        omega
      · have hn : ¬ isHex c = true := by simp [isHex]; omega
        repeat' (first
          | refine ite_both (fun _ => ?_) (fun _ => ?_)
          | (refine fin _ ?_; rw [if_neg hn]; done)
          | (exfalso; simp at *; omega))

/-- where a run of bytes of a kind ends -/
def span (p : Nat → Bool) (t : List UInt8) (at_ : Nat) : Nat := if at_ < t.length ∧ p (g t at_) = true then span p t (at_ + 1) else at_
termination_by t.length - at_
theorem span_go {p : Nat → Bool} {t : List UInt8} {k : Nat} (h : k < t.length) (hp : p (g t k) = true) : span p t k = span p t (k + 1) := by rw [span, if_pos ⟨h, hp⟩]
theorem span_no {p : Nat → Bool} {t : List UInt8} {k : Nat} (h : ¬ (k < t.length ∧ p (g t k) = true)) : span p t k = k := by rw [span, if_neg h]
theorem span_le (p : Nat → Bool) (t : List UInt8) (k : Nat) : k ≤ span p t k ∧ (k ≤ t.length → span p t k ≤ t.length) := by
  by_cases h : k < t.length ∧ p (g t k) = true
  · rw [span_go h.1 h.2]
    have := span_le p t (k + 1)
    exact ⟨by omega, fun _ => this.2 (by omega)⟩
  · rw [span_no h]
    exact ⟨Nat.le_refl _, fun h => h⟩
termination_by t.length - k
theorem span_all {p : Nat → Bool} {t : List UInt8} {k : Nat} : ∀ j, k ≤ j → j < span p t k → j < t.length ∧ p (g t j) = true := by
  intro j h1 h2
  by_cases h : k < t.length ∧ p (g t k) = true
  · rw [span_go h.1 h.2] at h2
    by_cases e : j = k
    · subst e; exact h
    · exact span_all j (by omega) h2
  · rw [span_no h] at h2
    omega
termination_by t.length - k
theorem span_end {p : Nat → Bool} {t : List UInt8} {k : Nat} : ¬ (span p t k < t.length ∧ p (g t (span p t k)) = true) := by
  by_cases h : k < t.length ∧ p (g t k) = true
  · rw [span_go h.1 h.2]
    exact span_end
  · rw [span_no h]
    exact h
termination_by t.length - k
theorem max64 : IntKind.max .i64 = 9223372036854775807 := rfl

/-- what lies between two places -/
def cut (t : List UInt8) (a b : Nat) : List UInt8 := (t.drop a).take (b - a)
theorem cut_length (t : List UInt8) (a b : Nat) (h : a ≤ b) (hb : b ≤ t.length) : (cut t a b).length = b - a := by simp [cut]; omega
theorem ext_cut (t : List UInt8) (a b : Nat) : (bs t).extract a b = bs (cut t a b) := bs_extract t a b
theorem cut_get (t : List UInt8) (a b k : Nat) (hk : a + k < b) : g (cut t a b) k = g t (a + k) := by
  unfold g cut
  simp only [List.getD_eq_getElem?_getD, List.getElem?_take, List.getElem?_drop]
  rw [if_pos (by omega)]

theorem rend_ok (w : World) (t : List UInt8) (k : Nat) (hk : k ≤ t.length) (ht : t.length ≤ 65536) : Calls Tryd.prog 29 #[.string (bs t), .int .i64 (k : Int)] w (endW (fun v w' => v = .int .i64 (span isAl t k : Nat) ∧ w' = w) (fun _ _ => False)) := by
  refine F29_calls _ _ ?_
  delta F29
  refine ⟨fun s w' => ∃ j : Nat, s = (j : Int) ∧ j ≤ t.length ∧ span isAl t j = span isAl t k ∧ w' = w, fun s _ => (t.length - s).toNat, ⟨(k : Int), ⟨rfl, trivial⟩, k, rfl, hk, rfl, rfl⟩, ?_⟩
  rintro s w1 ⟨j, rfl, hj, he, rfl⟩ _
  rw [bs_size]
  have next : isAl (g t j) = true → j < t.length → ∃ s' : Int, (Value.int .i64 s' = .int .i64 (IntKind.wrap .i64 ((j : Int) + 1)) ∧ True) ∧ (∃ j : Nat, s' = (j : Int) ∧ j ≤ t.length ∧ span isAl t j = span isAl t k ∧ w1 = w1) ∧ (t.length - s').toNat < (t.length - (j : Int)).toNat := fun hp hl =>
    ⟨((j + 1 : Nat) : Int), ⟨by rw [i64w _ (by omega) (by omega)]; rfl, trivial⟩, ⟨j + 1, rfl, by omega, by rw [← span_go hl hp]; exact he, rfl⟩, by omega⟩
  by_cases hl : j < t.length
  · rw [if_pos (by simp; omega)]
    refine ⟨by omega, by omega, ?_⟩
    rw [g_at]
    refine Calls.then (rletter_ok w1 _) ?_
    rintro v w2 ⟨rfl, rfl⟩
    refine ⟨_, rfl, ?_⟩
    refine ite_both (fun h1 => ?_) (fun h1 => ?_)
    · refine ⟨by omega, by omega, ?_⟩
      refine Calls.then (rdigit_ok w2 _) ?_
      rintro v w3 ⟨rfl, rfl⟩
      refine ⟨_, rfl, ?_⟩
      refine ite_both (fun h2 => ?_) (fun h2 => ?_)
      · exact next (by simp [isAl, h2]) hl
      · refine ⟨?_, rfl⟩
        rw [← he, span_no (by simp [isAl, h1]; simp at h2; exact fun _ => h2)]
    · exact next (by simp at h1; simp [isAl, h1]) hl
  · rw [if_neg (by simp; omega)]
    refine ⟨?_, rfl⟩
    rw [← he, span_no (by omega)]
theorem run_ok (w : World) (t : List UInt8) (k : Nat) (hk : k ≤ t.length) (ht : t.length ≤ 65536) : Calls Tryd.prog 45 #[.string (bs t), .int .i64 (k : Int)] w (endW (fun v w' => v = .string (bs (cut t k (span isDig t k))) ∧ w' = w) (fun _ _ => False)) := by
  refine F45_calls _ _ ?_
  delta F45
  refine ⟨fun s w' => ∃ j : Nat, s = (j : Int) ∧ k ≤ j ∧ j ≤ t.length ∧ span isDig t j = span isDig t k ∧ w' = w, fun s _ => (t.length - s).toNat, ⟨(k : Int), ⟨rfl, trivial⟩, k, rfl, Nat.le_refl _, hk, rfl, rfl⟩, ?_⟩
  rintro s w1 ⟨j, rfl, hkj, hj, he, rfl⟩ _
  rw [bs_size]
  by_cases hl : j < t.length
  · rw [if_pos (by simp; omega)]
    refine ⟨by omega, by omega, ?_⟩
    rw [g_at]
    refine Calls.then (rdigit_ok w1 _) ?_
    rintro v w2 ⟨rfl, rfl⟩
    refine ⟨_, rfl, ?_⟩
    refine ite_both (fun h1 => ?_) (fun h1 => ?_)
    · exact ⟨((j + 1 : Nat) : Int), ⟨by rw [i64w _ (by omega) (by omega)]; rfl, trivial⟩, ⟨j + 1, rfl, by omega, by omega, by rw [← span_go hl h1]; exact he, rfl⟩, by dsimp only; omega⟩
    · refine ⟨by omega, by omega, by omega, by simp; omega, ?_, rfl⟩
      rw [← he, span_no (fun h => h1 h.2), Int.toNat_natCast, Int.toNat_natCast, ext_cut]
  · rw [if_neg (by simp; omega)]
    refine ⟨by omega, by omega, by omega, by simp; omega, ?_, rfl⟩
    rw [← he, span_no (fun h => hl h.1), Int.toNat_natCast, Int.toNat_natCast, ext_cut]
end Go.Proofs.YthifnahfcbgnoaaDoor.B
