/-
  Policies: names of queries; a map that counts names.
-/
import Derived.Test.YtbpckcmejkcciaaPolH
import Derived.Lib.ConvBytes
import Derived.Lib.Strings
import Derived.MapKept
import Derived.Carry
set_option linter.unusedVariables false
set_option linter.unusedSimpArgs false
namespace Go.Proofs.Ytbpckcmejkcciaa.B
open Go Go.Proofs Go.Proofs.YtbpckcmejkcciaaEng

def letS (x : Int) : Bool := decide (x = 95 ∨ (97 ≤ x ∧ x ≤ 122) ∨ (65 ≤ x ∧ x ≤ 90))
def digS (x : Int) : Bool := decide (48 ≤ x ∧ x ≤ 57)
/-- may a letter stand there? -/
def okS (s : ByteArray) (i : Nat) : Bool := letS (byteAt s i) || (decide (i ≠ 0) && digS (byteAt s i))
def allB (s : ByteArray) : Nat → Bool
  | 0 => true
  | i + 1 => allB s i && okS s i
/-- may a query bear it? -/
def nameS (s : ByteArray) : Bool := decide (s.size ≠ 0) && decide (s.size ≤ 32) && allB s s.size
theorem allB_false {s : ByteArray} {i : Nat} (h : okS s i = false) : ∀ n, i < n → allB s n = false
  | 0, hn => by omega
  | n + 1, hn => by
    simp only [allB]
    rcases Nat.lt_or_ge i n with h1 | h1
    · rw [allB_false h n h1]; rfl
    · rw [show n = i from by omega, h]; simp
theorem empty_iff (s : ByteArray) : (ByteArray.toList s == ByteArray.toList { data := #[] }) = decide (s.size = 0) := by
  rw [Lib.toList_data, Lib.toList_data]
  obtain ⟨⟨l⟩⟩ := s
  cases l <;> simp [ByteArray.size]
theorem byteAt_byte (s : ByteArray) (i : Int) : ∃ y : UInt8, byteAt s i = (y.toNat : Int) := ⟨_, rfl⟩
theorem low_letter (y : UInt8) : ((97 : Int) ≤ IntKind.wrap .u8 (BitVec.toNat (BitVec.ofInt 8 (y.toNat : Int) ||| BitVec.ofInt 8 (32 : Int)) : Int) ∧ IntKind.wrap .u8 (BitVec.toNat (BitVec.ofInt 8 (y.toNat : Int) ||| BitVec.ofInt 8 (32 : Int)) : Int) ≤ 122) ↔ ((97 : Int) ≤ (y.toNat : Int) ∧ (y.toNat : Int) ≤ 122) ∨ ((65 : Int) ≤ (y.toNat : Int) ∧ (y.toNat : Int) ≤ 90) := by
  rw [u8b, ofInt_nat, show BitVec.ofInt 8 (32 : Int) = 32#8 from rfl, wrap8]
  have : ∀ x : BitVec 8, ((97 : Int) ≤ ((x ||| 32#8).toNat : Int) ∧ ((x ||| 32#8).toNat : Int) ≤ 122) ↔ ((97 : Int) ≤ (x.toNat : Int) ∧ (x.toNat : Int) ≤ 122) ∨ ((65 : Int) ≤ (x.toNat : Int) ∧ (x.toNat : Int) ≤ 90) := by decide +kernel
  exact this y.toBitVec

theorem Name_ok (w : World) (s : ByteArray) : Calls Try.prog 26 #[.string s] w (endW (fun v w' => v = .bool (nameS s) ∧ Chg NoS w w') (fun _ _ => False)) := by
  refine F26_calls s ?_
  delta F26
  refine ⟨fun _ w' => w' = w ∧ s.size ≠ 0 ∧ s.size ≤ 32, ?_, ?_⟩
  rotate_left
  · rw [empty_iff]
    by_cases h0 : s.size = 0
    · rw [if_neg (by simp [h0])]
      exact ⟨by unfold nameS; simp [h0], Chg.refl _ _⟩
    rw [if_pos (by simp [h0])]
    by_cases h32 : s.size ≤ 32
    · rw [if_neg (by simp; omega)]
      exact ⟨(), trivial, rfl, h0, h32⟩
    · rw [if_pos (by simp; omega)]
      refine ⟨?_, Chg.refl _ _⟩
      unfold nameS
      rw [decide_eq_false h32]
      simp
  rintro _ w' ⟨hw', h0, h32⟩ _
  subst hw'
  have hres : ∀ b, b = allB s s.size → b = nameS s := fun b hb => by
    unfold nameS
    rw [hb, decide_eq_true h0, decide_eq_true h32]
    simp
  refine runV_of_ok (Lib.run_convert_string_bytes w' 9 65 5 s Try.underlying9 Try.underlying65 Try.underlying5) ?_
  have hb1 := Lib.bytesWorld_at_new w' 5 s
  have hc1 : Chg NoS w' (Lib.bytesWorld w' 5 s) := ⟨rfl, rfl, rfl, by simp [Lib.bytesWorld, World.freeze, World.alloc, World.drew, -World.alloc_eq, -World.drew_eq], fun k hk _ => Lib.bytesWorld_at_old w' 5 s k hk⟩
  have hcell : ∀ j, j < s.size → (Lib.bytesWorld w' 5 s).cell? ⟨w'.heap.size, j, none⟩ = some (.int .u8 (byteAt s j)) := fun j hj => by
    rw [cell_blk hb1]
    unfold Lib.bytesCells byteAt
    obtain ⟨⟨l⟩⟩ := s
    have hl : j < l.length := hj
    simp [Array.getElem?_append, hl]
  generalize Lib.bytesWorld w' 5 s = w1 at *
  refine ⟨_, _, _, rfl, ?_⟩
  refine ⟨fun t w2 => ∃ j : Nat, t = j ∧ j ≤ s.size ∧ w2 = w1 ∧ allB s j = true, fun t _ => (s.size - t).toNat, ⟨0, ⟨rfl, trivial⟩, 0, rfl, by omega, rfl, rfl⟩, ?_⟩
  rintro t w2 ⟨j, rfl, hj, rfl, hall⟩ _
  by_cases hlt : (j : Int) < s.size
  · rw [if_pos (by simpa using hlt)]
    have hj' : j < s.size := by omega
    refine ⟨by omega, by omega, ?_⟩
    rw [wSome_some]
    refine ⟨_, by rw [addK_lit]; simpa using hcell j hj', ?_⟩
    obtain ⟨y, hy⟩ := byteAt_byte s j
    have hgo : okS s j = true → ∃ (s' : Int), (Value.int .i64 s' = Value.int .i64 (IntKind.wrap .i64 ((j : Int) + 1)) ∧ True) ∧ (∃ j : Nat, s' = j ∧ j ≤ s.size ∧ w2 = w2 ∧ allB s j = true) ∧ (s.size - s').toNat < (s.size - (j : Int)).toNat := fun h =>
      ⟨(j : Int) + 1, ⟨by rw [i64w _ (by omega) (by omega)], trivial⟩, ⟨j + 1, by omega, by omega, rfl, by simp only [allB]; rw [hall, h]; rfl⟩, by omega⟩
    have hno : okS s j = false → (Value.bool false = .bool (nameS s) ∧ Chg NoS w' w2) := fun h => ⟨by rw [hres false (allB_false h _ hj').symm], hc1⟩
    have hdig : ∀ h95 : letS (byteAt s j) = false, (if decide ((j : Int) > 0) = true then if decide (byteAt s j ≥ 48) = true then if decide (byteAt s j ≤ 57) = true then ∃ (s' : Int), (Value.int .i64 s' = Value.int .i64 (IntKind.wrap .i64 ((j : Int) + 1)) ∧ True) ∧ (∃ j : Nat, s' = j ∧ j ≤ s.size ∧ w2 = w2 ∧ allB s j = true) ∧ (s.size - s').toNat < (s.size - (j : Int)).toNat else (Value.bool false = .bool (nameS s) ∧ Chg NoS w' w2) else (Value.bool false = .bool (nameS s) ∧ Chg NoS w' w2) else (Value.bool false = .bool (nameS s) ∧ Chg NoS w' w2)) := fun h95 => by
      have hok : okS s j = (decide (j ≠ 0) && digS (byteAt s j)) := by unfold okS; rw [h95]; rfl
      by_cases hj0 : j = 0
      · rw [if_neg (by simp [hj0])]
        exact hno (by rw [hok]; simp [hj0])
      rw [if_pos (by simp; omega)]
      by_cases h48 : 48 ≤ byteAt s j
      · rw [if_pos (by simpa using h48)]
        by_cases h57 : byteAt s j ≤ 57
        · rw [if_pos (by simpa using h57)]
          exact hgo (by rw [hok]; unfold digS; simp [hj0, h48, h57])
        · rw [if_neg (by simpa using h57)]
          exact hno (by rw [hok]; unfold digS; simp; omega)
      · rw [if_neg (by simpa using h48)]
        exact hno (by rw [hok]; unfold digS; simp; omega)
    by_cases h95 : byteAt s j = 95
    · rw [if_pos (by simpa using h95), if_pos (by simpa using h95)]
      exact hgo (by unfold okS letS; simp [h95])
    rw [if_neg (by simpa using h95)]
    have hlow := low_letter y
    rw [← hy] at hlow
    have hlet : letS (byteAt s j) = decide ((97 ≤ byteAt s j ∧ byteAt s j ≤ 122) ∨ (65 ≤ byteAt s j ∧ byteAt s j ≤ 90)) := by unfold letS; simp [h95]
    by_cases h97 : (97 : Int) ≤ IntKind.wrap .u8 (BitVec.toNat (BitVec.ofInt 8 (byteAt s j) ||| BitVec.ofInt 8 (32 : Int)) : Int)
    · rw [if_pos (by simpa using h97)]
      by_cases h122 : IntKind.wrap .u8 (BitVec.toNat (BitVec.ofInt 8 (byteAt s j) ||| BitVec.ofInt 8 (32 : Int)) : Int) ≤ 122
      · rw [if_pos (by simpa using h122)]
        exact hgo (by unfold okS; rw [hlet, decide_eq_true (hlow.1 ⟨h97, h122⟩)]; rfl)
      · rw [if_neg (by simpa using h122)]
        exact hdig (by rw [hlet]; exact decide_eq_false (fun h => h122 (hlow.2 h).2))
    · rw [if_neg (by simpa using h97)]
      exact hdig (by rw [hlet]; exact decide_eq_false (fun h => h97 (hlow.2 h).1))
  · rw [if_neg (by simpa using hlt)]
    have : j = s.size := by omega
    subst this
    exact ⟨by rw [hres true hall.symm], hc1⟩
end Go.Proofs.Ytbpckcmejkcciaa.B
