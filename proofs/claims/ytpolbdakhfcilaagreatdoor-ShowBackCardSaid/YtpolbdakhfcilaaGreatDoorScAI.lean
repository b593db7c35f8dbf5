import Derived.Test.YtpolbdakhfcilaaGreatDoorBA
import Derived.Test.YtpolbdakhfcilaaGreatDoorEngV
import Derived.Test.YtpolbdakhfcilaaGreatDoorBB
import Derived.Test.YtpolbdakhfcilaaGreatDoorShelf
import Derived.Laws.IdiomStrings
import Derived.Test.YtpolbdakhfcilaaGreatDoorBC
import Derived.Laws.RangeAny
import Derived.Lib.OthersKept
/-
  scan: letters, digits; how far a run goes.
-/
set_option maxRecDepth 100000
set_option linter.unusedVariables false
set_option linter.unusedSimpArgs false
namespace Go.Proofs.YtpolbdakhfcilaaGreatDoor.B
open Go Go.Proofs Go.Proofs.YtpolbdakhfcilaaGreatDoorEng Go.RowKit

theorem ite_both {c : Prop} [Decidable c] {A B : Prop} (h1 : c → A) (h2 : ¬ c → B) : if c then A else B := by
  by_cases h : c
  · rw [if_pos h]; exact h1 h
  · rw [if_neg h]; exact h2 h
/-- the byte at a place (0 behind the end) -/
def g (t : List UInt8) (k : Nat) : Nat := (t.getD k 0).toNat
theorem g_lt (t : List UInt8) (k : Nat) : g t k < 256 := (t.getD k 0).toNat_lt
theorem g_at (t : List UInt8) (k : Nat) : byteAt (bs t) (k : Int) = (g t k : Int) := byteAt_bs t k
def isDig (c : Nat) : Bool := decide (48 ≤ c ∧ c ≤ 57)
def isLet (c : Nat) : Bool := decide ((65 ≤ c ∧ c ≤ 90) ∨ (97 ≤ c ∧ c ≤ 122) ∨ c = 95)
def isAl (c : Nat) : Bool := isLet c || isDig c
def isHex (c : Nat) : Bool := decide ((48 ≤ c ∧ c ≤ 57) ∨ (97 ≤ c ∧ c ≤ 102) ∨ (65 ≤ c ∧ c ≤ 70))
def hv (c : Nat) : Nat := if 48 ≤ c ∧ c ≤ 57 then c - 48 else if 97 ≤ c ∧ c ≤ 102 then c - 87 else c - 55
theorem hv_lt {c : Nat} (h : isHex c = true) : hv c < 16 := by
  simp only [isHex, decide_eq_true_eq] at h
  unfold hv
  split
  · omega
  · split <;> omega
abbrev Says (b : Bool) (w : World) : Value → World → Prop := fun v w' => v = .bool b ∧ w' = w
theorem says_of {w : World} {x y : Bool} (h : x = y) : Says y w (.bool x) w := ⟨by rw [h], rfl⟩
theorem isDig_iff (c : Nat) : (isDig c = true) = (48 ≤ c ∧ c ≤ 57) := by simp [isDig]
theorem digit_ok (w : World) (c : Nat) : Calls Tryz.prog 68 #[.int .u8 (c : Int)] w (endW (Says (isDig c) w) (fun _ _ => False)) := by
  refine F68_calls _ ?_
  delta F68
  refine ite_both (fun h => ?_) (fun h => ?_) <;> (simp at h; refine says_of (Bool.eq_iff_iff.2 ?_); simp [isDig]; omega)
theorem beq95 (c : Nat) : (((c : Int) == 95) : Bool) = decide (c = 95) := by
  by_cases h : c = 95
  · subst h; rfl
  · have : ¬ (c : Int) = 95 := by omega
    simp [h, this]
theorem letter_ok (w : World) (c : Nat) : Calls Tryz.prog 70 #[.int .u8 (c : Int)] w (endW (Says (isLet c) w) (fun _ _ => False)) := by
  refine F70_calls _ ?_
  delta F70
  repeat' (first
    | refine ite_both (fun _ => ?_) (fun _ => ?_)
    | (refine says_of (Bool.eq_iff_iff.2 ?_); simp [isLet] at *; omega))
theorem alnum_ok (w : World) (c : Nat) : Calls Tryz.prog 72 #[.int .u8 (c : Int)] w (endW (Says (isAl c) w) (fun _ _ => False)) := by
  refine F72_calls _ ?_
  delta F72
  refine Calls.then (letter_ok w c) ?_
  rintro v w1 ⟨rfl, rfl⟩
  refine ⟨_, rfl, ?_⟩
  refine ite_both (fun h => ?_) (fun h => ?_)
  · refine Calls.then (digit_ok w1 c) ?_
    rintro v w2 ⟨rfl, rfl⟩
    exact ⟨_, rfl, says_of (by simp [isAl, h])⟩
  · exact says_of (by simp at h; simp [isAl, h])
theorem hex_ok (w : World) (c : Nat) : Calls Tryz.prog 83 #[.int .u8 (c : Int)] w (endW (Says (isHex c) w) (fun _ _ => False)) := by
  refine F83_calls _ ?_
  delta F83
  refine Calls.then (digit_ok w c) ?_
  rintro v w1 ⟨rfl, rfl⟩
  refine ⟨_, rfl, ?_⟩
  by_cases hd : 48 ≤ c ∧ c ≤ 57
  · rw [if_neg (by simp [isDig]; omega)]
    exact says_of (by simp [isHex]; omega)
  · rw [if_pos (by simp [isDig]; omega)]
    repeat' (first
      | refine ite_both (fun _ => ?_) (fun _ => ?_)
      | (refine says_of (Bool.eq_iff_iff.2 ?_); simp [isHex] at *; omega))
/-- where a run of bytes of a kind ends -/
def span (p : Nat → Bool) (t : List UInt8) (at_ : Nat) : Nat := if at_ < t.length ∧ p (g t at_) = true then span p t (at_ + 1) else at_
termination_by t.length - at_
theorem span_go {p : Nat → Bool} {t : List UInt8} {k : Nat} (h : k < t.length) (hp : p (g t k) = true) : span p t k = span p t (k + 1) := by rw [span, if_pos ⟨h, hp⟩]
theorem span_no {p : Nat → Bool} {t : List UInt8} {k : Nat} (h : ¬ (k < t.length ∧ p (g t k) = true)) : span p t k = k := by rw [span, if_neg h]
theorem span_le (p : Nat → Bool) (t : List UInt8) (k : Nat) : k ≤ span p t k ∧ (k ≤ t.length → span p t k ≤ t.length) := by
  by_cases h : k < t.length ∧ p (g t k) = true
  · rw [span_go h.1 h.2]
    have := span_le p t (k + 1)
    exact ⟨by omega, fun _ => this.2 (by omega)⟩
  · rw [span_no h]
    exact ⟨Nat.le_refl _, fun h => h⟩
termination_by t.length - k
theorem span_all {p : Nat → Bool} {t : List UInt8} {k : Nat} : ∀ j, k ≤ j → j < span p t k → j < t.length ∧ p (g t j) = true := by
  intro j h1 h2
  by_cases h : k < t.length ∧ p (g t k) = true
  · rw [span_go h.1 h.2] at h2
    by_cases e : j = k
    · subst e; exact h
    · exact span_all j (by omega) h2
  · rw [span_no h] at h2
    omega
termination_by t.length - k
theorem span_end {p : Nat → Bool} {t : List UInt8} {k : Nat} : ¬ (span p t k < t.length ∧ p (g t (span p t k)) = true) := by
  by_cases h : k < t.length ∧ p (g t k) = true
  · rw [span_go h.1 h.2]
    exact span_end
  · rw [span_no h]
    exact h
termination_by t.length - k
theorem max64 : IntKind.max .i64 = 9223372036854775807 := rfl

/-- what lies between two places -/
def cut (t : List UInt8) (a b : Nat) : List UInt8 := (t.drop a).take (b - a)
theorem cut_length (t : List UInt8) (a b : Nat) (h : a ≤ b) (hb : b ≤ t.length) : (cut t a b).length = b - a := by simp [cut]; omega
theorem ext_cut (t : List UInt8) (a b : Nat) : (bs t).extract a b = bs (cut t a b) := bs_extract t a b
theorem cut_get (t : List UInt8) (a b k : Nat) (hk : a + k < b) : g (cut t a b) k = g t (a + k) := by
  unfold g cut
  simp only [List.getD_eq_getElem?_getD, List.getElem?_take, List.getElem?_drop]
  rw [if_pos (by omega)]

end Go.Proofs.YtpolbdakhfcilaaGreatDoor.B

/-
  scan: ParseUint, of digits, at base 10 and 16.
-/
set_option maxRecDepth 100000
set_option linter.unusedVariables false
set_option linter.unusedSimpArgs false
namespace Go.Proofs.YtpolbdakhfcilaaGreatDoor.B
open Go Go.Proofs Go.Proofs.YtpolbdakhfcilaaGreatDoorEng Go.RowKit

theorem conv_bytes {w : World} {l : List UInt8} {K : Value → World → Prop} {E : PanW}
    (hK : ∀ c w', Chg NoS w w' → (∀ j, j < l.length → w'.cell? (addK ⟨w.heap.size, 0, none⟩ j) = some (.int .u8 (g l j : Nat))) → w.heap.size < w'.heap.size → K (.slice (some ⟨w.heap.size, 0, none⟩) l.length c) w') :
    runV Tryz.prog (convert 9 77 (.string (bs l))) w K E := by
  have hr := run_bytes_of_string (P := Tryz.prog) w 9 77 5 (bs l) Tryz.underlying9 Tryz.underlying77 Tryz.underlying5
  refine runV_of_ok hr ?_
  rw [bs_size]
  refine hK _ _ ((chg_drew w NoS).trans (chg_alloc w.drew _ _)) (fun j hj => ?_) (by rw [size_alloc, size_drew]; omega)
  rw [addK_lit, Nat.zero_add]
  refine (cell_blk (blk_alloc w.drew _) j).trans ?_
  rw [bytesRow_at (bs l) _ j (by simpa [bs] using hj)]
  simp [bs, g, List.getD_eq_getElem?_getD, hj]

/-! ### what digits say -/
def vals (b : Nat) (l : List UInt8) : Nat := l.foldl (fun n c => n * b + hv c.toNat) 0
theorem vals_take {b : Nat} {l : List UInt8} {i : Nat} (h : i < l.length) : vals b (l.take (i + 1)) = vals b (l.take i) * b + hv (g l i) := by
  unfold vals g
  rw [List.take_add_one, List.foldl_append]
  simp [List.getD_eq_getElem?_getD, h]
theorem fold_le {b : Nat} (hb : 0 < b) : ∀ (l : List UInt8) (n : Nat), n ≤ l.foldl (fun n c => n * b + hv c.toNat) n
  | [], n => Nat.le_refl _
  | c :: l, n => Nat.le_trans (Nat.le_trans (Nat.le_mul_of_pos_right n hb) (Nat.le_add_right _ _)) (fold_le hb l _)
theorem vals_le {b : Nat} (hb : 0 < b) (l : List UInt8) (i : Nat) : vals b (l.take i) ≤ vals b l := by
  unfold vals
  conv => rhs; rw [← List.take_append_drop i l, List.foldl_append]
  exact fold_le hb _ _
/-- a digit at the base -/
def okD (b : Nat) (c : Nat) : Bool := if b = 10 then isDig c else isHex c
theorem okD_hex {b c : Nat} (h : okD b c = true) : isHex c = true := by
  unfold okD at h
  split at h
  · simp only [isDig, decide_eq_true_eq] at h; simp [isHex]; omega
  · exact h
theorem okD_lt {b c : Nat} (hb : b = 10 ∨ b = 16) (h : okD b c = true) : hv c < b := by
  unfold okD at h
  split at h
  · rename_i hb'
    simp only [isDig, decide_eq_true_eq] at h
    unfold hv
    rw [if_pos (by omega)]
    omega
  · have := hv_lt h
    omega
theorem low_hex : ∀ c, c < 256 → isHex c = true → ¬ (48 ≤ c ∧ c ≤ 57) → (BitVec.ofInt 8 (c : Int) ||| BitVec.ofInt 8 32).toNat = hv c + 87 := by decide
theorem lower_ok (w : World) (c : Nat) : Calls Tryz.prog 106 #[.int .u8 (c : Int)] w (endW (fun v w' => v = .int .u8 (IntKind.wrap .u8 ((BitVec.ofInt 8 (c : Int) ||| BitVec.ofInt 8 32).toNat : Int)) ∧ w' = w) (fun _ _ => False)) := by
  refine F106_calls _ ?_
  delta F106
  exact ⟨rfl, rfl⟩
theorem wrap_u64 (n : Int) : IntKind.wrap .u64 n = n % 18446744073709551616 := IntKind.wrap_u64 n
def maxOf (bits : Nat) : Nat := if bits = 64 then 18446744073709551615 else 255
theorem max_val {bits : Nat} (hb : bits = 8 ∨ bits = 64) : IntKind.wrap .u64 (IntKind.wrap .u64 (1 * (2 : Int) ^ min (IntKind.wrap .u64 (bits : Int)).toNat 64) - 1) = ((maxOf bits : Nat) : Int) := by
  rcases hb with rfl | rfl <;> rfl
theorem iParse_ok (w : World) (l : List UInt8) (b bits : Nat) (hb : b = 10 ∨ b = 16) (hbits : bits = 8 ∨ bits = 64) (hl : ∀ j, j < l.length → okD b (g l j) = true) (hlen : l.length ≤ 65536) :
    Calls Tryz.prog 97 #[.string (bs l), .int .i64 (b : Int), .int .i64 (bits : Int)] w (endW (fun v w' => ((l ≠ [] ∧ vals b l ≤ maxOf bits ∧ v = .tuple #[.int .u64 (vals b l : Nat), .nilIface]) ∨ (¬ (l ≠ [] ∧ vals b l ≤ maxOf bits) ∧ ∃ (x k : Int), (k = 1 ∨ k = 2) ∧ v = .tuple #[.int .u64 x, .iface 149 (.int .i64 k)])) ∧ Chg NoS w w') (fun _ _ => False)) := by
  refine F97_calls _ _ _ ?_
  delta F97
  rw [show ({ data := #[] } : ByteArray) = bs [] from rfl, bs_beq]
  by_cases h0 : l = []
  · rw [if_pos (by simp [h0])]
    exact ⟨.inr ⟨fun h => h.1 h0, 0, 2, .inr rfl, rfl⟩, Chg.refl _ _⟩
  rw [if_neg (by simp [h0])]
  have hb0 : 0 < b := by omega
  refine ⟨fun s w' => s = (bs l, (b : Int)) ∧ w' = w, ?_, ?_⟩
  · rintro _ w0 ⟨rfl, rfl⟩ _
    refine ⟨fun s w' => s = (bits : Int) ∧ w' = w0, ?_, ?_⟩
    · rintro _ w1 ⟨rfl, rfl⟩ _
      refine ⟨fun s w' => s = (if b = 10 then (1844674407370955162 : Int) else 1152921504606846976) ∧ w' = w1, ?_, ?_⟩
      · rintro _ w2 ⟨rfl, rfl⟩ _
        refine ⟨by rw [wrap_u64]; omega, ?_⟩
        refine conv_bytes fun c w3 hc3 hcell hsz => ?_
        refine ⟨_, _, _, rfl, ?_⟩
        dsimp only
        rw [max_val hbits]
        have bad : ¬ vals b l ≤ maxOf bits → ∀ (x : Int), (fun (v : Value) (w' : World) => ((l ≠ [] ∧ vals b l ≤ maxOf bits ∧ v = .tuple #[.int .u64 (vals b l : Nat), .nilIface]) ∨ (¬ (l ≠ [] ∧ vals b l ≤ maxOf bits) ∧ ∃ (x k : Int), (k = 1 ∨ k = 2) ∧ v = .tuple #[.int .u64 x, .iface 149 (.int .i64 k)])) ∧ Chg NoS w2 w') (.tuple #[.int .u64 x, .iface 149 (.int .i64 1)]) w3 := fun h x => ⟨.inr ⟨fun hh => h hh.2, x, 1, .inl rfl, rfl⟩, hc3⟩
        refine ⟨fun s w' => ∃ i n : Nat, s = (false, (n : Int), (i : Int)) ∧ i ≤ l.length ∧ n = vals b (l.take i) ∧ n ≤ maxOf bits ∧ w' = w3, fun s _ => (l.length - s.2.2).toNat, ⟨(false, 0, 0), ⟨rfl, rfl, rfl, trivial⟩, 0, 0, rfl, by omega, by simp [vals], by omega, rfl⟩, ?_⟩
        rintro _ w4 ⟨i, n, rfl, hi, hn, hmax, rfl⟩ _
        dsimp only
        by_cases hlt : i < l.length
        · rw [if_pos (by simp; omega)]
          refine ⟨by omega, by omega, ?_⟩
          refine ⟨(g l i : Nat), by rw [Int.toNat_natCast, Nat.mul_one]; exact hcell i hlt, ?_⟩
          have hd := hl i hlt
          have hhex := okD_hex hd
          have hdl := okD_lt hb hd
          have hg := g_lt l i
          generalize hc : g l i = c at *
          have hM : maxOf bits ≤ 18446744073709551615 := by unfold maxOf; split <;> omega
          have htk := vals_take (b := b) hlt
          rw [hc, ← hn] at htk
          have hle := vals_le hb0 l (i + 1)
          rw [htk] at hle
          refine ⟨fun s w' => s = (false, (hv c : Int)) ∧ w' = w4, ?_, ?_⟩
          · rintro _ w5 ⟨rfl, rfl⟩ _
            dsimp only
            have eb : IntKind.wrap .u8 (b : Int) = (b : Int) := IntWalk.u8_in _ (by omega)
            have eb6 : IntKind.wrap .u64 (b : Int) = (b : Int) := by rw [wrap_u64]; omega
            have ed : IntKind.wrap .u64 (hv c : Int) = (hv c : Int) := by rw [wrap_u64]; omega
            rw [eb, eb6, ed]
            rw [if_neg (by simp; omega)]
            have hcut : (decide ((n : Int) ≥ if b = 10 then (1844674407370955162 : Int) else 1152921504606846976) = true) ↔ 18446744073709551616 ≤ n * b := by
              rw [decide_eq_true_eq]
              rcases hb with rfl | rfl
              · rw [if_pos rfl]; omega
              · rw [if_neg (by decide)]; omega
            by_cases hcu : 18446744073709551616 ≤ n * b
            · rw [if_pos (hcut.2 hcu)]
              exact bad (by omega) _
            · rw [if_neg (fun h => hcu (hcut.1 h))]
              have e1 : IntKind.wrap .u64 ((n : Int) * (b : Int)) = ((n * b : Nat) : Int) := by rw [wrap_u64, ← Int.natCast_mul]; omega
              rw [e1]
              generalize hq : n * b = q at hle htk hcu ⊢
              have e2 : IntKind.wrap .u64 ((q : Int) + (hv c : Int)) = ((q : Int) + (hv c : Int)) % 18446744073709551616 := wrap_u64 _
              rw [e2]
              by_cases ho : q + hv c < 18446744073709551616
              · have e3 : ((q : Int) + (hv c : Int)) % 18446744073709551616 = ((q + hv c : Nat) : Int) := by omega
                rw [e3, if_pos (by simp; omega)]
                by_cases hm : q + hv c ≤ maxOf bits
                · rw [if_neg (by simp; omega)]
                  refine ⟨(false, ((q + hv c : Nat) : Int), ((i + 1 : Nat) : Int)), ⟨rfl, rfl, by rw [i64w _ (by omega) (by omega)]; rfl, trivial⟩, ⟨i + 1, q + hv c, rfl, by omega, htk.symm, hm, rfl⟩, by dsimp only; omega⟩
                · rw [if_pos (by simp; omega)]
                  exact bad (by omega) _
              · rw [if_neg (by simp; omega)]
                exact bad (by omega) _
          · rw [if_neg (by
              have : ¬ ((c : Int) = 95) := by simp only [isHex, decide_eq_true_eq] at hhex; omega
              simpa using this)]
            by_cases hdg : 48 ≤ c ∧ c ≤ 57
            · rw [if_pos (by simp; omega), if_pos (by simp; omega)]
              refine ⟨(false, (hv c : Int)), ⟨rfl, ?_, trivial⟩, rfl, rfl⟩
              rw [IntWalk.u8_in _ (by omega)]
              congr 1
              unfold hv
              rw [if_pos hdg]
              omega
            · have hh := hv_lt hhex
              have low := low_hex c hg hhex hdg
              have hw : IntKind.wrap .u8 (((hv c + 87 : Nat)) : Int) = ((hv c + 87 : Nat) : Int) := IntWalk.u8_in _ (by omega)
              have h10 : 10 ≤ hv c := by
                simp only [isHex, decide_eq_true_eq] at hhex
                unfold hv
                rw [if_neg hdg]
                split <;> omega
              have letter : ∀ w5 : World, w5 = w4 → Calls Tryz.prog 106 #[.int .u8 (c : Int)] w5 (endW (fun (v : Value) (w' : World) => v = .int .u8 ((hv c + 87 : Nat) : Int) ∧ w' = w4) (fun _ _ => False)) := fun w5 e => by
                subst e
                refine Calls.then (lower_ok w5 c) ?_
                rintro v w6 ⟨rfl, rfl⟩
                rw [low, hw]
                exact ⟨rfl, rfl⟩
              have tail : Calls Tryz.prog 106 #[.int .u8 (c : Int)] w4 (endW (fun (v : Value) (w' : World) => ∃ (x : Int), v = Value.int .u8 x ∧ ∃ (s : Bool × Int), (Value.bool s.1 = .bool false ∧ Value.int .u8 s.2 = .int .u8 (IntKind.wrap .u8 (IntKind.wrap .u8 (x - 97) + 10)) ∧ True) ∧ (s = (false, (hv c : Int)) ∧ w' = w4)) (fun _ _ => False)) := by
                refine Calls.then (letter w4 rfl) ?_
                rintro v w6 ⟨rfl, rfl⟩
                refine ⟨_, rfl, (false, (hv c : Int)), ⟨rfl, ?_, trivial⟩, rfl, rfl⟩
                rw [IntWalk.u8_in (((hv c + 87 : Nat) : Int) - 97) (by omega), IntWalk.u8_in _ (by omega)]
                congr 1
                omega
              have mid : Calls Tryz.prog 106 #[.int .u8 (c : Int)] w4 (endW (fun (v : Value) (w' : World) => ∃ (x_2 : Int), v = Value.int .u8 x_2 ∧ if decide (x_2 ≤ 122) = true then Calls Tryz.prog 106 #[.int .u8 (c : Int)] w' (endW (fun (v : Value) (w' : World) => ∃ (x : Int), v = Value.int .u8 x ∧ ∃ (s : Bool × Int), (Value.bool s.1 = .bool false ∧ Value.int .u8 s.2 = .int .u8 (IntKind.wrap .u8 (IntKind.wrap .u8 (x - 97) + 10)) ∧ True) ∧ (s = (false, (hv c : Int)) ∧ w' = w4)) (fun _ _ => False)) else ((l ≠ [] ∧ vals b l ≤ maxOf bits ∧ Value.tuple #[Value.int IntKind.u64 (0 : Int), Value.iface 149 (Value.int IntKind.i64 2)] = .tuple #[.int .u64 (vals b l : Nat), .nilIface]) ∨ (¬ (l ≠ [] ∧ vals b l ≤ maxOf bits) ∧ ∃ (x k : Int), (k = 1 ∨ k = 2) ∧ Value.tuple #[Value.int IntKind.u64 (0 : Int), Value.iface 149 (Value.int IntKind.i64 2)] = .tuple #[.int .u64 x, .iface 149 (.int .i64 k)])) ∧ Chg NoS w2 w') (fun _ _ => False)) := by
                refine Calls.then (letter w4 rfl) ?_
                rintro v w6 ⟨rfl, rfl⟩
                refine ⟨_, rfl, ?_⟩
                rw [if_pos (by simp; omega)]
                exact tail
              refine ite_both (fun h48 => ?_) (fun _ => ?_)
              · simp at h48
                rw [if_neg (by simp; omega)]
                refine Calls.then (letter w4 rfl) ?_
                rintro v w6 ⟨rfl, rfl⟩
                refine ⟨_, rfl, ?_⟩
                rw [if_pos (by simp; omega)]
                exact mid
              · refine Calls.then (letter w4 rfl) ?_
                rintro v w6 ⟨rfl, rfl⟩
                refine ⟨_, rfl, ?_⟩
                rw [if_pos (by simp; omega)]
                exact mid
        · rw [if_neg (by simp; omega), if_neg (by decide)]
          have : i = l.length := by omega
          subst this
          rw [List.take_length] at hn
          subst hn
          exact ⟨.inl ⟨h0, hmax, rfl⟩, hc3⟩
      · dsimp only
        rcases hb with rfl | rfl
        · rw [if_pos (by decide)]
          exact ⟨_, ⟨rfl, trivial⟩, by rw [if_pos rfl], rfl⟩
        · rw [if_neg (by decide), if_pos (by decide)]
          exact ⟨_, ⟨rfl, trivial⟩, by rw [if_neg (by decide)], rfl⟩
    · rcases hbits with rfl | rfl
      · rw [if_neg (by decide), if_pos (by decide), if_neg (by decide)]
        exact ⟨_, ⟨rfl, trivial⟩, rfl, rfl⟩
      · rw [if_neg (by decide), if_pos (by decide), if_neg (by decide)]
        exact ⟨_, ⟨rfl, trivial⟩, rfl, rfl⟩
  · refine ⟨fun s w' => s = true ∧ w' = w, ?_, ?_⟩
    · rintro _ w0 ⟨rfl, rfl⟩ _
      rw [if_pos rfl]
      exact ⟨(bs l, (b : Int)), ⟨rfl, rfl, trivial⟩, rfl, rfl⟩
    · rw [if_pos (by simp; omega)]
      exact ⟨_, ⟨rfl, trivial⟩, by simp; omega, rfl⟩

/-- the variables that the library's errors lie in -/
def Errs (w : World) : Prop := (∃ t p, w.cell? ⟨2, 0, none⟩ = some (.iface t p)) ∧ (∃ t p, w.cell? ⟨3, 0, none⟩ = some (.iface t p))
theorem Errs.chg {w w' : World} (h : Errs w) (hc : Chg NoS w w') : Errs w' := by
  obtain ⟨⟨t, p, h1⟩, ⟨t', p', h2⟩⟩ := h
  exact ⟨⟨t, p, hc.sameOld.cell h1⟩, ⟨t', p', hc.sameOld.cell h2⟩⟩
theorem Parse_ok (w : World) (l : List UInt8) (b bits : Nat) (hb : b = 10 ∨ b = 16) (hbits : bits = 8 ∨ bits = 64) (hl : ∀ j, j < l.length → okD b (g l j) = true) (hlen : l.length ≤ 65536) (hE : Errs w) :
    Calls Tryz.prog 84 #[.string (bs l), .int .i64 (b : Int), .int .i64 (bits : Int)] w (endW (fun v w' => ((l ≠ [] ∧ vals b l ≤ maxOf bits ∧ v = .tuple #[.int .u64 (vals b l : Nat), .nilIface]) ∨ (¬ (l ≠ [] ∧ vals b l ≤ maxOf bits) ∧ ∃ (x : Int) (t : TypeId) (z : Value), v = .tuple #[.int .u64 x, .iface t z])) ∧ Chg NoS w w') (fun _ _ => False)) := by
  refine F84_calls _ _ _ ?_
  delta F84
  refine Calls.then (iParse_ok w l b bits hb hbits hl hlen) ?_
  rintro v w1 ⟨h, hc⟩
  rcases h with ⟨h0, hm, rfl⟩ | ⟨hn, x, k, hk, rfl⟩
  · refine ⟨_, rfl, _, _, rfl, _, rfl, _, _, rfl, rfl, .inl rfl, ?_⟩
    rw [if_neg (by simp [isNilI])]
    exact ⟨.inl ⟨h0, hm, rfl⟩, hc⟩
  · refine ⟨_, rfl, _, _, rfl, _, rfl, _, _, rfl, rfl, .inr ⟨_, _, rfl⟩, ?_⟩
    rw [if_pos (by simp [isNilI])]
    obtain ⟨⟨t1, p1, e1⟩, ⟨t2, p2, e2⟩⟩ := hE.chg hc
    rcases hk with rfl | rfl
    · refine Calls.mono (Tryz.strconv_toError_range _ (bs l) b bits _ w1 (by rw [bs_size]; omega) e2 (.inr ⟨_, _, rfl⟩)) ?_
      rintro e w2 ⟨N, rfl, _, _, hbel⟩
      exact ⟨.inr ⟨hn, x, _, _, rfl⟩, hc.trans (below_new hbel)⟩
    · refine Calls.mono (Tryz.strconv_toError_syntax _ (bs l) b bits _ w1 (by rw [bs_size]; omega) e1 (.inr ⟨_, _, rfl⟩)) ?_
      rintro e w2 ⟨N, rfl, _, _, hbel⟩
      exact ⟨.inr ⟨hn, x, _, _, rfl⟩, hc.trans (below_new hbel)⟩
end Go.Proofs.YtpolbdakhfcilaaGreatDoor.B

/-
  scan: a reader; pairs.
-/
set_option maxRecDepth 100000
set_option linter.unusedVariables false
set_option linter.unusedSimpArgs false
namespace Go.Proofs.YtpolbdakhfcilaaGreatDoor.B
open Go Go.Proofs Go.Proofs.YtpolbdakhfcilaaGreatDoorEng Go.RowKit

theorem some_i {A : Addr} {K : Addr → Prop} (h : K A) : wSome (some A) K := h
/-- a reader: the text, the place, the words -/
def Rd (w : World) (r : Nat) (t : List UInt8) (k : Nat) (a : Option Addr) (n c : Nat) : Prop := w.heap[r]? = some (.cells #[.string (bs t), .int .i64 (k : Int), .slice a n c] 100 (0, 0))
variable {w : World} {r k n c : Nat} {t : List UInt8} {a : Option Addr}
theorem Rd.s (h : Rd w r t k a n c) : w.cell? (addK ⟨r, 0, none⟩ 0) = some (.string (bs t)) := by rw [addK_lit, cell_blk h]; rfl
theorem Rd.at_ (h : Rd w r t k a n c) : w.cell? (addK ⟨r, 0, none⟩ 1) = some (.int .i64 (k : Int)) := by rw [addK_lit, cell_blk h]; rfl
theorem Rd.l (h : Rd w r t k a n c) : w.cell? (addK ⟨r, 0, none⟩ 2) = some (.slice a n c) := by rw [addK_lit, cell_blk h]; rfl
theorem Rd.chg {w' : World} (h : Rd w r t k a n c) (hc : Chg NoS w w') : Rd w' r t k a n c := hc.blk h fun x => x
theorem Rd.drew (h : Rd w r t k a n c) : Rd w.drew r t k a n c := h

def isAt (t : List UInt8) (k c : Nat) : Bool := decide (k < t.length ∧ g t k = c)
theorem beq_nat (a b : Nat) : ((a : Int) == (b : Int)) = decide (a = b) := by
  by_cases h : a = b
  · subst h; simp
  · have : ¬ (a : Int) = b := by omega
    simp [h, this]
theorem is_ok (h : Rd w r t k a n c) (j b : Nat) : Calls Tryz.prog 74 #[.pointer (some ⟨r, 0, none⟩), .int .i64 (j : Int), .int .u8 (b : Int)] w (endW (Says (isAt t j b) w) (fun _ _ => False)) := by
  refine F74_calls _ _ _ ?_
  delta F74
  refine some_i ⟨_, h.s, ?_⟩
  rw [bs_size]
  by_cases hl : j < t.length
  · rw [if_pos (by simp; omega)]
    refine some_i ⟨_, h.s, by omega, by rw [bs_size]; omega, ?_⟩
    rw [g_at, beq_nat]
    exact says_of (by simp [isAt, hl])
  · rw [if_neg (by simp; omega)]
    exact says_of (by simp [isAt, hl])
theorem span18_ok (h : Rd w r t k a n c) (j : Nat) (hj : j ≤ t.length) (ht : t.length ≤ 65536) : Calls Tryz.prog 71 #[.pointer (some ⟨r, 0, none⟩), .int .i64 (j : Int), .func (.func 68) #[] #[]] w (endW (fun v w' => v = .int .i64 (span isDig t j : Nat) ∧ w' = w) (fun _ _ => False)) := by
  refine F71x68_calls _ _ ?_
  delta F71x68
  refine ⟨fun s w' => ∃ i : Nat, s = (i : Int) ∧ i ≤ t.length ∧ span isDig t i = span isDig t j ∧ w' = w, fun s _ => (t.length - s).toNat, ⟨(j : Int), ⟨rfl, trivial⟩, j, rfl, hj, rfl, rfl⟩, ?_⟩
  rintro s w1 ⟨i, rfl, hi, he, rfl⟩ _
  refine some_i ⟨_, h.s, ?_⟩
  rw [bs_size]
  by_cases hl : i < t.length
  · rw [if_pos (by simp; omega)]
    refine some_i ⟨_, h.s, by omega, by rw [bs_size]; omega, ?_⟩
    rw [g_at]
    refine Calls.then (digit_ok w1 _) ?_
    rintro v w2 ⟨rfl, rfl⟩
    refine ⟨_, rfl, ?_⟩
    refine ite_both (fun h1 => ?_) (fun h1 => ?_)
    · exact ⟨((i + 1 : Nat) : Int), ⟨by rw [i64w _ (by omega) (by omega)]; rfl, trivial⟩, ⟨i + 1, rfl, by omega, by rw [← span_go hl h1]; exact he, rfl⟩, by dsimp only; omega⟩
    · exact ⟨by rw [← he, span_no (fun h => h1 h.2)], rfl⟩
  · rw [if_neg (by simp; omega)]
    exact ⟨by rw [← he, span_no (fun h => hl h.1)], rfl⟩
theorem span22_ok (h : Rd w r t k a n c) (j : Nat) (hj : j ≤ t.length) (ht : t.length ≤ 65536) : Calls Tryz.prog 71 #[.pointer (some ⟨r, 0, none⟩), .int .i64 (j : Int), .func (.func 72) #[] #[]] w (endW (fun v w' => v = .int .i64 (span isAl t j : Nat) ∧ w' = w) (fun _ _ => False)) := by
  refine F71x72_calls _ _ ?_
  delta F71x72
  refine ⟨fun s w' => ∃ i : Nat, s = (i : Int) ∧ i ≤ t.length ∧ span isAl t i = span isAl t j ∧ w' = w, fun s _ => (t.length - s).toNat, ⟨(j : Int), ⟨rfl, trivial⟩, j, rfl, hj, rfl, rfl⟩, ?_⟩
  rintro s w1 ⟨i, rfl, hi, he, rfl⟩ _
  refine some_i ⟨_, h.s, ?_⟩
  rw [bs_size]
  by_cases hl : i < t.length
  · rw [if_pos (by simp; omega)]
    refine some_i ⟨_, h.s, by omega, by rw [bs_size]; omega, ?_⟩
    rw [g_at]
    refine Calls.then (alnum_ok w1 _) ?_
    rintro v w2 ⟨rfl, rfl⟩
    refine ⟨_, rfl, ?_⟩
    refine ite_both (fun h1 => ?_) (fun h1 => ?_)
    · exact ⟨((i + 1 : Nat) : Int), ⟨by rw [i64w _ (by omega) (by omega)]; rfl, trivial⟩, ⟨i + 1, rfl, by omega, by rw [← span_go hl h1]; exact he, rfl⟩, by dsimp only; omega⟩
    · exact ⟨by rw [← he, span_no (fun h => h1 h.2)], rfl⟩
  · rw [if_neg (by simp; omega)]
    exact ⟨by rw [← he, span_no (fun h => hl h.1)], rfl⟩
theorem span36_ok (h : Rd w r t k a n c) (j : Nat) (hj : j ≤ t.length) (ht : t.length ≤ 65536) : Calls Tryz.prog 71 #[.pointer (some ⟨r, 0, none⟩), .int .i64 (j : Int), .func (.func 83) #[] #[]] w (endW (fun v w' => v = .int .i64 (span isHex t j : Nat) ∧ w' = w) (fun _ _ => False)) := by
  refine F71x83_calls _ _ ?_
  delta F71x83
  refine ⟨fun s w' => ∃ i : Nat, s = (i : Int) ∧ i ≤ t.length ∧ span isHex t i = span isHex t j ∧ w' = w, fun s _ => (t.length - s).toNat, ⟨(j : Int), ⟨rfl, trivial⟩, j, rfl, hj, rfl, rfl⟩, ?_⟩
  rintro s w1 ⟨i, rfl, hi, he, rfl⟩ _
  refine some_i ⟨_, h.s, ?_⟩
  rw [bs_size]
  by_cases hl : i < t.length
  · rw [if_pos (by simp; omega)]
    refine some_i ⟨_, h.s, by omega, by rw [bs_size]; omega, ?_⟩
    rw [g_at]
    refine Calls.then (hex_ok w1 _) ?_
    rintro v w2 ⟨rfl, rfl⟩
    refine ⟨_, rfl, ?_⟩
    refine ite_both (fun h1 => ?_) (fun h1 => ?_)
    · exact ⟨((i + 1 : Nat) : Int), ⟨by rw [i64w _ (by omega) (by omega)]; rfl, trivial⟩, ⟨i + 1, rfl, by omega, by rw [← span_go hl h1]; exact he, rfl⟩, by dsimp only; omega⟩
    · exact ⟨by rw [← he, span_no (fun h => h1 h.2)], rfl⟩
  · rw [if_neg (by simp; omega)]
    exact ⟨by rw [← he, span_no (fun h => hl h.1)], rfl⟩
theorem wrong_ok (h : Rd w r t k a n c) (e j : Nat) (hk : k ≤ j) (hj : j ≤ t.length) : Calls Tryz.prog 73 #[.pointer (some ⟨r, 0, none⟩), .int .i64 (e : Int), .int .i64 (j : Int)] w (endW (fun v w' => ∃ b, v = .pointer (some ⟨b, 0, none⟩) ∧ w.heap.size ≤ b ∧ w'.heap[b]? = some (.cells #[.int .i64 (e : Int), .int .i64 (k : Int), .string (bs (cut t k j))] 74 (0, 0)) ∧ Chg NoS w w') (fun _ _ => False)) := by
  refine F73_calls _ _ _ ?_
  delta F73
  refine some_i (some_i (some_i ⟨_, h.drew.at_, _, h.drew.s, _, h.drew.at_, by omega, by rw [bs_size]; omega, by omega, by rw [Int.toNat_natCast]; omega, ?_⟩))
  rw [Int.toNat_natCast, Int.toNat_natCast, ext_cut]
  exact ⟨_, rfl, by rw [size_drew]; omega, blk_alloc w.drew _, (chg_drew w NoS).trans (chg_alloc w.drew _ _)⟩

/-! ### six pairs -/
def pr (t : List UInt8) (i at_ n : Nat) : Option (Nat × Nat) :=
  if i < 6 then (if (i = 0 ∨ isAt t at_ 58 = true) ∧ (if i = 0 then at_ else at_ + 1) + 2 ≤ t.length ∧ isHex (g t (if i = 0 then at_ else at_ + 1)) = true ∧ isHex (g t ((if i = 0 then at_ else at_ + 1) + 1)) = true then
    pr t (i + 1) ((if i = 0 then at_ else at_ + 1) + 2) (n * 256 + (hv (g t (if i = 0 then at_ else at_ + 1)) * 16 + hv (g t ((if i = 0 then at_ else at_ + 1) + 1)))) else none) else some (n, at_)
termination_by 6 - i
def pairsAt (t : List UInt8) (k : Nat) : Option (Nat × Nat) := pr t 0 k 0
theorem pr_end {t : List UInt8} {at_ n : Nat} : pr t 6 at_ n = some (n, at_) := by rw [pr, if_neg (by omega)]
theorem pr_go {t : List UInt8} {i at_ n b : Nat} (hi : i < 6) (hb : b = if i = 0 then at_ else at_ + 1) (h1 : i = 0 ∨ isAt t at_ 58 = true) (h2 : b + 2 ≤ t.length) (h3 : isHex (g t b) = true) (h4 : isHex (g t (b + 1)) = true) :
    pr t i at_ n = pr t (i + 1) (b + 2) (n * 256 + (hv (g t b) * 16 + hv (g t (b + 1)))) := by
  subst hb
  rw [pr, if_pos hi, if_pos ⟨h1, h2, h3, h4⟩]
theorem pr_no {t : List UInt8} {i at_ n b : Nat} (hi : i < 6) (hb : b = if i = 0 then at_ else at_ + 1) (h : ¬ ((i = 0 ∨ isAt t at_ 58 = true) ∧ b + 2 ≤ t.length ∧ isHex (g t b) = true ∧ isHex (g t (b + 1)) = true)) : pr t i at_ n = none := by
  subst hb
  rw [pr, if_pos hi, if_neg h]
theorem pr_le {t : List UInt8} {i at_ n m e : Nat} (h : pr t i at_ n = some (m, e)) (hl : at_ ≤ t.length) : at_ ≤ e ∧ e ≤ t.length ∧ (i < 6 → at_ < e) := by
  by_cases hi : i < 6
  · generalize hb : (if i = 0 then at_ else at_ + 1) = b
    have hbl : at_ ≤ b := by subst hb; split <;> omega
    by_cases hc : (i = 0 ∨ isAt t at_ 58 = true) ∧ b + 2 ≤ t.length ∧ isHex (g t b) = true ∧ isHex (g t (b + 1)) = true
    · rw [pr_go hi hb.symm hc.1 hc.2.1 hc.2.2.1 hc.2.2.2] at h
      have := pr_le h hc.2.1
      omega
    · rw [pr_no hi hb.symm hc] at h
      cases h
  · rw [pr, if_neg hi] at h
    injection h with h
    injection h with h1 h2
    subst h2
    exact ⟨Nat.le_refl _, hl, fun h => by omega⟩
termination_by 6 - i
theorem or_low {n x k : Nat} (hk : k ≤ 64) (hx : x < 2 ^ k) (hn : n * 2 ^ k < 2 ^ 64) : (BitVec.ofInt 64 ((n * 2 ^ k : Nat) : Int) ||| BitVec.ofInt 64 (x : Int)).toNat = n * 2 ^ k + x := by
  have hx2 : x < 2 ^ 64 := Nat.lt_of_lt_of_le hx (Nat.pow_le_pow_right (by omega) hk)
  rw [BitVec.toNat_or]
  have e1 : (BitVec.ofInt 64 ((n * 2 ^ k : Nat) : Int)).toNat = n * 2 ^ k := by
    generalize n * 2 ^ k = q at hn ⊢
    rw [BitVec.toNat_ofInt]
    omega
  have e2 : (BitVec.ofInt 64 (x : Int)).toNat = x := by rw [BitVec.toNat_ofInt]; omega
  rw [e1, e2, ← Nat.shiftLeft_eq, Nat.shiftLeft_add_eq_or_of_lt hx]
theorem g_cut2 {t : List UInt8} {b : Nat} (h : b + 2 ≤ t.length) : cut t b (b + 2) = [UInt8.ofNat (g t b), UInt8.ofNat (g t (b + 1))] := by
  have h1 : t[b]? = some (t[b]'(by omega)) := List.getElem?_eq_getElem _
  have h2 : t[b + 1]? = some (t[b + 1]'(by omega)) := List.getElem?_eq_getElem _
  have hl : (cut t b (b + 2)).length = 2 := by rw [cut_length _ _ _ (by omega) h]; omega
  refine List.ext_getElem? fun j => ?_
  match j with
  | 0 => simp [cut, g, List.getD_eq_getElem?_getD, h1]
  | 1 => simp [cut, g, List.getD_eq_getElem?_getD, h2, List.getElem?_take]
  | j + 2 => simp [hl]
theorem vals2 {t : List UInt8} {b : Nat} (h : b + 2 ≤ t.length) : vals 16 (cut t b (b + 2)) = hv (g t b) * 16 + hv (g t (b + 1)) := by
  rw [g_cut2 h]
  have e1 : (UInt8.ofNat (g t b)).toNat = g t b := by have := g_lt t b; simp only [UInt8.toNat_ofNat']; omega
  have e2 : (UInt8.ofNat (g t (b + 1))).toNat = g t (b + 1) := by have := g_lt t (b + 1); simp only [UInt8.toNat_ofNat']; omega
  simp only [vals, List.foldl_cons, List.foldl_nil, e1, e2, Nat.zero_mul, Nat.zero_add]
/-- what pairs answers -/
def pairsV (o : Option (Nat × Nat)) : Value := match o with
  | some (m, e) => .tuple #[.int .i64 (e : Int), .int .u64 (m : Int), .bool true]
  | none => .tuple #[.int .i64 0, .int .u64 0, .bool false]
def rpairsV (o : Option (Nat × Nat)) : Value := match o with
  | some (m, e) => .tuple #[.int .u64 (m : Int), .int .i64 (e : Int), .bool true]
  | none => .tuple #[.int .u64 0, .int .i64 0, .bool false]
theorem pairs_ok (h : Rd w r t k a n c) (hk : k ≤ t.length) (ht : t.length ≤ 65536) (hE : Errs w) : Calls Tryz.prog 67 #[.pointer (some ⟨r, 0, none⟩)] w (endW (fun v w' => v = pairsV (pairsAt t k) ∧ Chg NoS w w') (fun _ _ => False)) := by
  refine F67_calls _ ?_
  delta F67
  refine some_i ⟨_, h.at_, ?_⟩
  refine ⟨fun s w' => ∃ i at_ m : Nat, s = ((m : Int), (at_ : Int), (i : Int)) ∧ i ≤ 6 ∧ at_ ≤ t.length ∧ m < 256 ^ i ∧ pr t i at_ m = pairsAt t k ∧ Chg NoS w w', fun s _ => (6 - s.2.2).toNat, ⟨(0, (k : Int), 0), ⟨rfl, rfl, rfl, trivial⟩, 0, k, 0, rfl, by omega, hk, by omega, rfl, Chg.refl _ _⟩, ?_⟩
  rintro _ w1 ⟨i, at_, m, rfl, hi, hat, hm, he, hc⟩ _
  dsimp only
  by_cases hlt : i < 6
  · rw [if_pos (by simp; omega)]
    have hm48 : m < 2 ^ 40 := Nat.lt_of_lt_of_le hm (by
      have : 256 ^ i ≤ 256 ^ 5 := Nat.pow_le_pow_right (by omega) (by omega)
      omega)
    have hm48' : m < 1099511627776 := hm48
    generalize hb : (if i = 0 then at_ else at_ + 1) = b
    have no : ∀ w' : World, Chg NoS w w' → ¬ ((i = 0 ∨ isAt t at_ 58 = true) ∧ b + 2 ≤ t.length ∧ isHex (g t b) = true ∧ isHex (g t (b + 1)) = true) → Value.tuple #[.int .i64 0, .int .u64 0, .bool false] = pairsV (pairsAt t k) ∧ Chg NoS w w' := fun w' hc hn => ⟨by rw [← he, pr_no hlt hb.symm hn]; rfl, hc⟩
    refine ⟨fun s w' => s = ((m : Int), (b : Int)) ∧ (i = 0 ∨ isAt t at_ 58 = true) ∧ b ≤ t.length ∧ Chg NoS w w', ?_, ?_⟩
    · rintro _ w2 ⟨rfl, hcol, hbl, hc2⟩ _
      have h2 := h.chg hc2
      refine ⟨fun s w' => s = (m : Int) ∧ b + 2 ≤ t.length ∧ isHex (g t b) = true ∧ isHex (g t (b + 1)) = true ∧ Chg NoS w w', ?_, ?_⟩
      · rintro _ w3 ⟨rfl, hle, hx1, hx2, hc3⟩ _
        have h3 := h.chg hc3
        have e2 : IntKind.wrap .i64 ((b : Int) + 2) = ((b + 2 : Nat) : Int) := by rw [i64w _ (by omega) (by omega)]; rfl
        dsimp only
        rw [e2]
        refine some_i ⟨_, h3.s, by omega, by rw [bs_size]; omega, by omega, by rw [Int.toNat_natCast]; omega, ?_⟩
        rw [Int.toNat_natCast, Int.toNat_natCast, ext_cut]
        have l1 := hv_lt hx1
        have l2 := hv_lt hx2
        refine Calls.then (Parse_ok w3 (cut t b (b + 2)) 16 8 (.inr rfl) (.inl rfl) (fun j hj => ?_) (by rw [cut_length _ _ _ (by omega) hle]; omega) (hE.chg hc3)) ?_
        · rw [cut_length _ _ _ (by omega) hle] at hj
          rw [cut_get _ _ _ _ (by omega)]
          have : j = 0 ∨ j = 1 := by omega
          rcases this with rfl | rfl
          · exact hx1
          · exact hx2
        rintro v w4 ⟨hv', hc4⟩
        rw [vals2 hle] at hv'
        have hne : cut t b (b + 2) ≠ [] := fun e => by
          have := cut_length t b (b + 2) (by omega) hle
          rw [e] at this
          simp at this
        rcases hv' with ⟨_, _, rfl⟩ | ⟨hn, _⟩
        · refine ⟨_, rfl, _, _, rfl, _, rfl, _, _, rfl, rfl, by omega, ?_⟩
          have e3 : IntKind.wrap .u64 ((m : Int) * (2 : Int) ^ 8) = ((m * 2 ^ 8 : Nat) : Int) := by rw [wrap_u64]; omega
          rw [e3, or_low (k := 8) (by omega) (by omega) (by omega), wrap_u64]
          refine ⟨(((m * 256 + (hv (g t b) * 16 + hv (g t (b + 1))) : Nat) : Int), ((b + 2 : Nat) : Int), ((i + 1 : Nat) : Int)), ⟨?_, rfl, by rw [i64w _ (by omega) (by omega)]; rfl, trivial⟩, ⟨i + 1, b + 2, _, rfl, by omega, hle, ?_, ?_, hc3.trans hc4⟩, by dsimp only; omega⟩
          · dsimp only
            congr 1
            omega
          · rw [Nat.pow_succ]
            omega
          · rw [← pr_go hlt hb.symm hcol hle hx1 hx2]
            exact he
        · exact absurd ⟨hne, by unfold maxOf; rw [if_neg (by decide)]; omega⟩ hn
      · dsimp only
        refine some_i ⟨_, h2.s, ?_⟩
        have e2 : IntKind.wrap .i64 ((b : Int) + 2) = ((b + 2 : Nat) : Int) := by rw [i64w _ (by omega) (by omega)]; rfl
        have e1 : IntKind.wrap .i64 ((b : Int) + 1) = ((b + 1 : Nat) : Int) := by rw [i64w _ (by omega) (by omega)]; rfl
        rw [e2, e1, bs_size]
        by_cases hle : b + 2 ≤ t.length
        · rw [if_pos (by simp; omega)]
          refine some_i ⟨_, h2.s, by omega, by rw [bs_size]; omega, ?_⟩
          rw [g_at]
          refine Calls.then (hex_ok w2 _) ?_
          rintro v w3 ⟨rfl, rfl⟩
          refine ⟨_, rfl, ?_⟩
          refine ite_both (fun hx => ?_) (fun hx => ?_)
          · simp at hx
            refine some_i ⟨_, h2.s, by omega, by rw [bs_size]; omega, ?_⟩
            rw [g_at]
            refine Calls.then (hex_ok w3 _) ?_
            rintro v w4 ⟨rfl, rfl⟩
            refine ⟨_, rfl, ?_⟩
            refine ite_both (fun hy => ?_) (fun hy => ?_)
            · simp at hy
              exact no w4 hc2 (fun hh => by rw [hy] at hh; exact absurd hh.2.2.2 (by decide))
            · simp at hy
              exact ⟨(m : Int), ⟨rfl, trivial⟩, rfl, hle, hx, hy, hc2⟩
          · simp at hx
            exact no w3 hc2 (fun hh => by rw [hx] at hh; exact absurd hh.2.2.1 (by decide))
        · rw [if_neg (by simp; omega)]
          exact no w2 hc2 (fun hh => hle hh.2.1)
    · by_cases hi0 : i = 0
      · rw [if_neg (by simp; omega)]
        rw [if_pos hi0] at hb
        subst hb
        exact ⟨((m : Int), (at_ : Int)), ⟨rfl, rfl, trivial⟩, rfl, .inl hi0, hat, hc⟩
      · rw [if_pos (by simp; omega)]
        rw [if_neg hi0] at hb
        subst hb
        refine Calls.then (is_ok (h.chg hc) at_ 58) ?_
        rintro v w2 ⟨rfl, rfl⟩
        refine ⟨_, rfl, ?_⟩
        refine ite_both (fun hx => ?_) (fun hx => ?_)
        · simp at hx
          exact no w2 hc (fun hh => by rw [hx] at hh; rcases hh.1 with h | h; exact hi0 h; cases h)
        · simp at hx
          have hx2 := hx
          simp [isAt] at hx2
          exact ⟨((m : Int), ((at_ + 1 : Nat) : Int)), ⟨rfl, by rw [i64w _ (by omega) (by omega)]; rfl, trivial⟩, rfl, .inr hx, by omega, hc⟩
  · rw [if_neg (by simp; omega)]
    have : i = 6 := by omega
    subst this
    rw [pr_end] at he
    refine ⟨?_, hc⟩
    rw [← he]
    rfl
end Go.Proofs.YtpolbdakhfcilaaGreatDoor.B

/-
  scan: words laid down; what a number is.
-/
set_option maxRecDepth 100000
set_option linter.unusedVariables false
set_option linter.unusedSimpArgs false
namespace Go.Proofs.YtpolbdakhfcilaaGreatDoor.B
open Go Go.Proofs Go.Proofs.YtpolbdakhfcilaaGreatDoorEng Go.RowKit

structure Wd where
  kind : Nat
  txt : List UInt8
  num : Nat
  pos : Nat
deriving DecidableEq
def wcells (ws : List Wd) : List Value := ws.flatMap fun x => [.int .i8 (x.kind : Int), .string (bs x.txt), .int .u64 (x.num : Int), .int .i64 (x.pos : Int)]
theorem wcells_length (ws : List Wd) : (wcells ws).length = 4 * ws.length := by
  induction ws with
  | nil => rfl
  | cons x r ih => simp only [wcells, List.flatMap_cons, List.length_append, List.length_cons, List.length_nil] at ih ⊢; omega
theorem wcells_append (a b : List Wd) : wcells (a ++ b) = wcells a ++ wcells b := by simp [wcells]
theorem info39 : (Tryz.prog.info? 71).map (fun i => (i.zero, i.size, i.bytes)) = some (some (.agg #[.int .i8 0, .string ⟨#[]⟩, .int .u64 0, .int .i64 0]), 4, 40) := by kernel_rfl
abbrev wobj (x : Wd) : Obj := .cells #[.int .i8 (x.kind : Int), .string (bs x.txt), .int .u64 (x.num : Int), .int .i64 (x.pos : Int)] 71
theorem push_ok {w : World} {base n : Nat} {v : Value} {ws : List Wd} {x : Wd} {K : Value → World → Prop} {E : PanW} (ho : w.ownsRow base 71 4 v n (wcells ws)) (hn : n ≤ 1000000) (hbase : base ≤ w.heap.size)
    (hK : ∀ a' c' w', w'.ownsRow base 71 4 (.slice a' (n + 1) c') (n + 1) (wcells (ws ++ [x])) → Chg (fun k => base ≤ k) w w' → K (.slice a' (n + 1) c') w') :
    runV Tryz.prog (Builtin.append_ #[58, 58] 58 #[v, .slice (some ⟨w.heap.size, 0, none⟩) 1 1]) (w.alloc (wobj x)) K E := by
  have hca := chg_alloc w (wobj x) NoS
  refine row_append (z := .agg #[.int .i8 0, .string ⟨#[]⟩, .int .u64 0, .int .i64 0]) (size := 4) (bytes := 40) (base := base) (news := [.int .i8 (x.kind : Int), .string (bs x.txt), .int .u64 (x.num : Int), .int .i64 (x.pos : Int)]) Tryz.underlying58 Tryz.underlying58 info39 rfl (own_of_chg ho hca fun _ _ x => x) rfl (reads_lit (blk_alloc w _)) (fun e => by cases e) (fun u hu => ?_) (by omega) (by omega) (by rw [size_alloc]; omega) ?_
  · simp only [List.mem_cons, List.mem_nil_iff, or_false] at hu
    rcases hu with rfl | rfl | rfl | rfl <;> rfl
  intro a' c' w' ho' hc' hb'
  refine hK a' c' w' (by rw [wcells_append]; exact ho') ?_
  exact (hca.mono fun _ _ x => x.elim).trans (hc'.mono fun k _ hk => (own_lt' ho hk).2)

/-- a reader and the words that it has -/
def RdO (w : World) (base r : Nat) (t : List UInt8) (k : Nat) (ws : List Wd) : Prop := ∃ a n c, Rd w r t k a n c ∧ w.ownsRow base 71 4 (.slice a n c) n (wcells ws) ∧ n = ws.length ∧ r < base ∧ base ≤ w.heap.size ∧ ws.length ≤ 100000
theorem RdO.chg {w w' : World} {base r : Nat} {t : List UInt8} {k : Nat} {ws : List Wd} (h : RdO w base r t k ws) (hc : Chg NoS w w') : RdO w' base r t k ws := by
  obtain ⟨a, n, c, h1, h2, h3, h4, h5, h6⟩ := h
  exact ⟨a, n, c, h1.chg hc, own_of_chg h2 hc (fun _ _ x => x), h3, h4, by have := hc.size; omega, h6⟩
theorem set2 {w : World} {r : Nat} {x0 x1 x2 v : Value} {K : World → Prop} (hb : w.heap[r]? = some (.cells #[x0, x1, x2] 100 (0, 0))) (hv : oneC v = true) (hK : ∀ w', w'.heap[r]? = some (.cells #[x0, x1, v] 100 (0, 0)) → Chg (OnlyB r) w w' → w'.heap.size = w.heap.size → K w') : setW w (addK ⟨r, 0, none⟩ 2) v K :=
  sets_part (w := w) (b := r) (t := 100) (K := K) [v] 2 #[x0, x1, x2] hb (Nat.le_refl 3) (by simpa using hv) fun w' b' c' s' => hK w' b' c' s'
theorem set1 {w : World} {r : Nat} {x0 x1 x2 v : Value} {K : World → Prop} (hb : w.heap[r]? = some (.cells #[x0, x1, x2] 100 (0, 0))) (hv : oneC v = true) (hK : ∀ w', w'.heap[r]? = some (.cells #[x0, v, x2] 100 (0, 0)) → Chg (OnlyB r) w w' → w'.heap.size = w.heap.size → K w') : setW w (addK ⟨r, 0, none⟩ 1) v K :=
  sets_part (w := w) (b := r) (t := 100) (K := K) [v] 1 #[x0, x1, x2] hb (show 2 ≤ 3 by omega) (by simpa using hv) fun w' b' c' s' => hK w' b' c' s'

/-- what comes of reading at a place: a word's kind, end and number; or a fault's number and end -/
inductive One where
  | ok (kind e num : Nat)
  | bad (code e : Nat)
def Res (w : World) (base r : Nat) (t : List UInt8) (k : Nat) (ws : List Wd) (o : One) (v : Value) (w' : World) : Prop := Chg (fun b => r ≤ b) w w' ∧ (match o with
  | .ok kd e m => v = .pointer none ∧ RdO w' base r t e (ws ++ [⟨kd, cut t k e, m, k⟩])
  | .bad code e => ∃ b, v = .pointer (some ⟨b, 0, none⟩) ∧ w.heap.size ≤ b ∧ w'.heap[b]? = some (.cells #[.int .i64 (code : Int), .int .i64 (k : Int), .string (bs (cut t k e))] 74 (0, 0)))
theorem Res.of_chg {w w1 w' : World} {base r : Nat} {t : List UInt8} {k : Nat} {ws : List Wd} {o : One} {v : Value} (hc : Chg NoS w w1) (h : Res w1 base r t k ws o v w') : Res w base r t k ws o v w' := by
  refine ⟨(hc.mono fun _ _ x => x.elim).trans h.1, ?_⟩
  have h2 := h.2
  cases o with
  | ok kd e m => exact h2
  | bad code e =>
    obtain ⟨b, h1, h2, h3⟩ := h2
    exact ⟨b, h1, by have := hc.size; omega, h3⟩
theorem bad_res {w : World} {base r k : Nat} {t : List UInt8} {ws : List Wd} (h : RdO w base r t k ws) {code e : Nat} {ev : Nat} {R : Value → World → Prop} {E : PanW} (hk : k ≤ e) (he : e ≤ t.length) (hR : ∀ v w', Res w base r t k ws (.bad code e) v w' → R v w') :
    Calls Tryz.prog 73 #[.pointer (some ⟨r, 0, none⟩), .int .i64 (code : Int), .int .i64 (e : Int)] w (endW (fun (v : Value) (w' : World) => ∃ (p : Option Addr), v = Value.pointer p ∧ R (Value.pointer p) w') (fun _ _ => False)) := by
  obtain ⟨a, n, c, h1, h2, h3, h4, h5, h6⟩ := h
  refine Calls.then (wrong_ok h1 code e hk he) ?_
  rintro v w' ⟨b, rfl, hb, hcell, hc⟩
  exact ⟨_, rfl, hR _ _ ⟨hc.mono fun _ _ x => x.elim, b, rfl, hb, hcell⟩⟩

def closedAt (t : List UInt8) (e m : Nat) : One := if e < t.length ∧ isAl (g t e) = true then .bad 150 e else .ok 2 e m
theorem put_ok {w : World} {base r k : Nat} {t : List UInt8} {ws : List Wd} (h : RdO w base r t k ws) (e m : Nat) (hk : k ≤ e) (he : e ≤ t.length) (ht : t.length ≤ 65536) (hws : ws.length < 100000) :
    Calls Tryz.prog 86 #[.pointer (some ⟨r, 0, none⟩), .int .i64 (e : Int), .int .u64 (m : Int)] w (endW (Res w base r t k ws (closedAt t e m)) (fun _ _ => False)) := by
  refine F86_calls _ _ _ ?_
  delta F86
  have h0 := h
  obtain ⟨a, n, c, h1, h2, h3, h4, h5, h6⟩ := h
  refine ⟨fun s w' => w' = w ∧ ¬ (e < t.length ∧ isAl (g t e) = true), ?_, ?_⟩
  · rintro s w1 ⟨rfl, hno⟩ _
    refine some_i (some_i (some_i (some_i ⟨_, _, _, h1.drew.l, _, h1.drew.s, _, h1.drew.at_, by omega, by rw [bs_size]; omega, by omega, by rw [Int.toNat_natCast]; omega, _, h1.drew.at_, (chg_alloc w1.drew _ NoS).sameOld, ?_⟩)))
    rw [Int.toNat_natCast, Int.toNat_natCast, ext_cut]
    have hcd := chg_drew w1 NoS
    refine push_ok (x := ⟨2, cut t k e, m, k⟩) (own_of_chg h2 hcd fun _ _ x => x) (by omega) (by rw [size_drew]; omega) ?_
    intro a' c' w2 ho2 hc2
    refine ⟨_, _, _, rfl, ?_⟩
    have hb2 : w2.heap[r]? = some (.cells #[.string (bs t), .int .i64 (k : Int), .slice a n c] 100 (0, 0)) := hc2.blk h1.drew (by omega)
    refine some_i (set2 hb2 rfl ?_)
    intro w3 hb3 hc3 hs3
    refine some_i (set1 hb3 rfl ?_)
    intro w4 hb4 hc4 hs4
    have hc14 : Chg (fun b => r ≤ b) w1 w4 := (((hcd.mono fun _ _ x => x.elim).trans (hc2.mono fun b _ hb => by omega)).trans (hc3.mono fun b _ hb => by rw [show b = r from hb]; exact Nat.le_refl _)).trans (hc4.mono fun b _ hb => by rw [show b = r from hb]; exact Nat.le_refl _)
    refine ⟨hc14, ?_⟩
    unfold closedAt
    rw [if_neg hno]
    refine ⟨rfl, a', n + 1, c', hb4, ?_, by simp [h3], h4, by have := hc14.size; omega, by simp; omega⟩
    refine own_of_chg (own_of_chg ho2 hc3 fun b hb hx => ?_) hc4 fun b hb hx => ?_
    · have := (own_lt' ho2 hb).2; have : b = r := hx; omega
    · have := (own_lt' ho2 hb).2; have : b = r := hx; omega
  · have bad : e < t.length ∧ isAl (g t e) = true → Calls Tryz.prog 73 #[.pointer (some ⟨r, 0, none⟩), .int .i64 150, .int .i64 (e : Int)] w (endW (fun (v : Value) (w' : World) => ∃ (p : Option Addr), v = Value.pointer p ∧ Res w base r t k ws (closedAt t e m) (Value.pointer p) w') (fun _ _ => False)) := fun hy => by
      have := bad_res (ev := 0) h0 (code := 150) (R := Res w base r t k ws (closedAt t e m)) (E := fun _ _ => False) hk he fun v w' hr => by
        unfold closedAt
        rw [if_pos hy]
        exact hr
      exact this
    refine some_i ⟨_, h1.s, ?_⟩
    rw [bs_size]
    by_cases hl : e < t.length
    · rw [if_pos (by simp; omega)]
      refine some_i ⟨_, h1.s, by omega, by rw [bs_size]; omega, ?_⟩
      rw [g_at]
      refine Calls.then (letter_ok w _) ?_
      rintro v w1 ⟨rfl, rfl⟩
      refine ⟨_, rfl, ?_⟩
      refine ite_both (fun hx => ?_) (fun hx => ?_)
      · refine some_i ⟨_, h1.s, by omega, by rw [bs_size]; omega, ?_⟩
        rw [g_at]
        refine Calls.then (digit_ok w1 _) ?_
        rintro v w2 ⟨rfl, rfl⟩
        refine ⟨_, rfl, ?_⟩
        refine ite_both (fun hy => ?_) (fun hy => ?_)
        · exact bad ⟨hl, by simp [isAl, hy]⟩
        · exact ⟨(), trivial, rfl, fun hh => by have := hh.2; simp [isAl, hx] at this; exact hy this⟩
      · exact bad ⟨hl, by simp at hx; simp [isAl, hx]⟩
    · rw [if_neg (by simp; omega)]
      exact ⟨(), trivial, rfl, fun hh => hl hh.1⟩

/-! ### numbers -/
def dots (t : List UInt8) (i at_ m : Nat) : One :=
  if i < 4 then (if i = 0 ∨ isAt t at_ 46 = true then
    (let b := if i = 0 then at_ else at_ + 1
     let e := span isDig t b
     if cut t b e ≠ [] ∧ vals 10 (cut t b e) ≤ 255 ∧ ¬ (b + 1 < e ∧ isAt t b 48 = true) then dots t (i + 1) e (m * 256 + vals 10 (cut t b e)) else .bad 150 e)
    else .bad 150 at_) else closedAt t at_ m
termination_by 4 - i
def hexNum (t : List UInt8) (k : Nat) : One := if cut t (k + 2) (span isHex t (k + 2)) ≠ [] ∧ vals 16 (cut t (k + 2) (span isHex t (k + 2))) ≤ 18446744073709551615 ∧ ¬ k + 18 < span isHex t (k + 2) then closedAt t (span isHex t (k + 2)) (vals 16 (cut t (k + 2) (span isHex t (k + 2)))) else .bad 150 (span isHex t (k + 2))
def decNum (t : List UInt8) (k : Nat) : One := if cut t k (span isDig t k) ≠ [] ∧ vals 10 (cut t k (span isDig t k)) ≤ 18446744073709551615 then (if k + 1 < span isDig t k ∧ isAt t k 48 = true then .bad 150 (span isDig t k) else closedAt t (span isDig t k) (vals 10 (cut t k (span isDig t k)))) else .bad 3 (span isDig t k)
def numAt (t : List UInt8) (k : Nat) : One := match pairsAt t k with
  | some (m, e) => closedAt t e m
  | none => if isAt t k 48 = true ∧ isAt t (k + 1) 120 = true then hexNum t k else if isAt t (span isDig t k) 46 = true then dots t 0 k 0 else decNum t k
theorem cut_dig (p : Nat → Bool) {t : List UInt8} {k : Nat} (hk : k ≤ t.length) : ∀ j, j < (cut t k (span p t k)).length → p (g (cut t k (span p t k)) j) = true := fun j hj => by
  have hl := span_le p t k
  rw [cut_length _ _ _ hl.1 (hl.2 hk)] at hj
  rw [cut_get _ _ _ _ (by omega)]
  exact (span_all (p := p) (t := t) (k := k) (k + j) (by omega) (by omega)).2
theorem okD_dig {c : Nat} (h : isDig c = true) : okD 10 c = true := by unfold okD; rw [if_pos rfl]; exact h
theorem okD_hex' {c : Nat} (h : isHex c = true) : okD 16 c = true := by unfold okD; rw [if_neg (by decide)]; exact h
end Go.Proofs.YtpolbdakhfcilaaGreatDoor.B

/-
  scan: dotted, the three tries, number.
-/
set_option maxRecDepth 100000
set_option linter.unusedVariables false
set_option linter.unusedSimpArgs false
namespace Go.Proofs.YtpolbdakhfcilaaGreatDoor.B
open Go Go.Proofs Go.Proofs.YtpolbdakhfcilaaGreatDoorEng Go.RowKit

theorem dots_end {t : List UInt8} {at_ m : Nat} : dots t 4 at_ m = closedAt t at_ m := by rw [dots, if_neg (by omega)]
theorem dots_no {t : List UInt8} {i at_ m : Nat} (hi : i < 4) (h : ¬ (i = 0 ∨ isAt t at_ 46 = true)) : dots t i at_ m = .bad 150 at_ := by rw [dots, if_pos hi, if_neg h]
theorem dots_bad {t : List UInt8} {i at_ m b e : Nat} (hi : i < 4) (hb : b = if i = 0 then at_ else at_ + 1) (he : e = span isDig t b) (h : i = 0 ∨ isAt t at_ 46 = true) (hn : ¬ (cut t b e ≠ [] ∧ vals 10 (cut t b e) ≤ 255 ∧ ¬ (b + 1 < e ∧ isAt t b 48 = true))) : dots t i at_ m = .bad 150 e := by
  subst he; subst hb
  rw [dots, if_pos hi, if_pos h]
  exact if_neg hn
theorem dots_go {t : List UInt8} {i at_ m b e : Nat} (hi : i < 4) (hb : b = if i = 0 then at_ else at_ + 1) (he : e = span isDig t b) (h : i = 0 ∨ isAt t at_ 46 = true) (hn : cut t b e ≠ [] ∧ vals 10 (cut t b e) ≤ 255 ∧ ¬ (b + 1 < e ∧ isAt t b 48 = true)) : dots t i at_ m = dots t (i + 1) e (m * 256 + vals 10 (cut t b e)) := by
  subst he; subst hb
  rw [dots, if_pos hi, if_pos h]
  exact if_pos hn
theorem Res.ptr {w w' : World} {base r k : Nat} {t : List UInt8} {ws : List Wd} {o : One} {v : Value} (h : Res w base r t k ws o v w') : ∃ p, v = Value.pointer p := by
  have h2 := h.2
  cases o with
  | ok kd e m => exact ⟨none, h2.1⟩
  | bad code e =>
    obtain ⟨b, h3, _⟩ := h2
    exact ⟨_, h3⟩
theorem bad_to {w w1 : World} {base r k : Nat} {t : List UInt8} {ws : List Wd} (h : RdO w base r t k ws) (hc : Chg NoS w w1) {code e : Nat} (hk : k ≤ e) (he : e ≤ t.length) {o : One} (ho : o = .bad code e) :
    Calls Tryz.prog 73 #[.pointer (some ⟨r, 0, none⟩), .int .i64 (code : Int), .int .i64 (e : Int)] w1 (endW (fun (v : Value) (w' : World) => ∃ (p : Option Addr), v = Value.pointer p ∧ Res w base r t k ws o (Value.pointer p) w') (fun _ _ => False)) := by
  subst ho
  exact bad_res (ev := 0) (E := fun _ _ => False) (h.chg hc) hk he fun v w' hr => hr.of_chg hc
theorem put_to {w w1 : World} {base r k : Nat} {t : List UInt8} {ws : List Wd} (h : RdO w base r t k ws) (hc : Chg NoS w w1) {e m : Nat} (hk : k ≤ e) (he : e ≤ t.length) (ht : t.length ≤ 65536) (hws : ws.length < 100000) {o : One} (ho : o = closedAt t e m) :
    Calls Tryz.prog 86 #[.pointer (some ⟨r, 0, none⟩), .int .i64 (e : Int), .int .u64 (m : Int)] w1 (endW (fun (v : Value) (w' : World) => ∃ (p : Option Addr), v = Value.pointer p ∧ Res w base r t k ws o (Value.pointer p) w') (fun _ _ => False)) := by
  subst ho
  refine Calls.then (put_ok (h.chg hc) e m hk he ht hws) ?_
  intro v w' hr
  have hr' := hr.of_chg hc
  obtain ⟨p, rfl⟩ := hr.ptr
  exact ⟨p, rfl, hr'⟩
theorem dotted_ok {w : World} {base r k : Nat} {t : List UInt8} {ws : List Wd} (h : RdO w base r t k ws) (hk : k ≤ t.length) (ht : t.length ≤ 65536) (hws : ws.length < 100000) (hE : Errs w) :
    Calls Tryz.prog 89 #[.pointer (some ⟨r, 0, none⟩)] w (endW (Res w base r t k ws (dots t 0 k 0)) (fun _ _ => False)) := by
  refine F89_calls _ ?_
  delta F89
  have h0 := h
  obtain ⟨a, n, c, h1, h2, h3, h4, h5, h6⟩ := h
  refine some_i ⟨_, h1.at_, ?_⟩
  refine ⟨fun s w' => ∃ i at_ m : Nat, s = ((at_ : Int), (m : Int), (i : Int)) ∧ i ≤ 4 ∧ k ≤ at_ ∧ at_ ≤ t.length ∧ m < 256 ^ i ∧ dots t i at_ m = dots t 0 k 0 ∧ Chg NoS w w', fun s _ => (4 - s.2.2).toNat, ⟨((k : Int), 0, 0), ⟨rfl, rfl, rfl, trivial⟩, 0, k, 0, rfl, by omega, Nat.le_refl _, hk, by omega, rfl, Chg.refl _ _⟩, ?_⟩
  rintro _ w1 ⟨i, at_, m, rfl, hi, hka, hat, hm, he, hc⟩ _
  dsimp only
  by_cases hlt : i < 4
  · rw [if_pos (by simp; omega)]
    have hm24 : m < 16777216 := Nat.lt_of_lt_of_le hm (by
      have : 256 ^ i ≤ 256 ^ 3 := Nat.pow_le_pow_right (by omega) (by omega)
      omega)
    generalize hb : (if i = 0 then at_ else at_ + 1) = b
    refine ⟨fun s w' => s = (b : Int) ∧ (i = 0 ∨ isAt t at_ 46 = true) ∧ k ≤ b ∧ b ≤ t.length ∧ Chg NoS w w', ?_, ?_⟩
    · rintro _ w2 ⟨rfl, hcol, hkb, hbl, hc2⟩ _
      refine Calls.then (span18_ok (h1.chg hc2) b hbl ht) ?_
      rintro v w3 ⟨rfl, rfl⟩
      have hr3 := h1.chg hc2
      have hsp := span_le isDig t b
      generalize hee : span isDig t b = e at hsp
      have hel := hsp.2 hbl
      have h2' := hsp.1
      refine ⟨_, rfl, some_i ⟨_, hr3.s, by omega, by rw [bs_size]; omega, by omega, by rw [Int.toNat_natCast]; omega, ?_⟩⟩
      rw [Int.toNat_natCast, Int.toNat_natCast, ext_cut]
      refine Calls.then (Parse_ok w3 (cut t b e) 10 8 (.inl rfl) (.inl rfl) (fun j hj => okD_dig (by rw [← hee] at hj ⊢; exact cut_dig isDig hbl j hj)) (by rw [cut_length _ _ _ h2' hel]; omega) (hE.chg hc2)) ?_
      rintro v w4 ⟨hv', hc4⟩
      have hc14 := hc2.trans hc4
      have e1 : IntKind.wrap .i64 ((b : Int) + 1) = ((b + 1 : Nat) : Int) := by rw [i64w _ (by omega) (by omega)]; rfl
      rcases hv' with ⟨hne, hmax, rfl⟩ | ⟨hn, x, t1, z1, rfl⟩
      · have hmax' : vals 10 (cut t b e) ≤ 255 := hmax
        refine ⟨_, rfl, _, _, rfl, _, rfl, _, _, rfl, rfl, .inl rfl, ?_⟩
        rw [if_pos (by simp [isNilI]), e1]
        have go : ¬ (b + 1 < e ∧ isAt t b 48 = true) → ∃ s' : Int × Int × Int, (Value.int .i64 s'.1 = .int .i64 (e : Int) ∧ Value.int .u64 s'.2.1 = .int .u64 (IntKind.wrap .u64 ((BitVec.ofInt 64 (IntKind.wrap .u64 ((m : Int) * (2 : Int) ^ 8)) ||| BitVec.ofInt 64 ((vals 10 (cut t b e) : Nat) : Int)).toNat : Int)) ∧ Value.int .i64 s'.2.2 = .int .i64 (IntKind.wrap .i64 ((i : Int) + 1)) ∧ True) ∧
            (∃ i at_ m : Nat, s' = ((at_ : Int), (m : Int), (i : Int)) ∧ i ≤ 4 ∧ k ≤ at_ ∧ at_ ≤ t.length ∧ m < 256 ^ i ∧ dots t i at_ m = dots t 0 k 0 ∧ Chg NoS w w4) ∧ (4 - s'.2.2).toNat < (4 - (i : Int)).toNat := fun hnz => by
          have e3 : IntKind.wrap .u64 ((m : Int) * (2 : Int) ^ 8) = ((m * 2 ^ 8 : Nat) : Int) := by rw [wrap_u64]; omega
          rw [e3, or_low (k := 8) (by omega) (by omega) (by omega), wrap_u64]
          refine ⟨((e : Int), ((m * 256 + vals 10 (cut t b e) : Nat) : Int), ((i + 1 : Nat) : Int)), ⟨rfl, ?_, by rw [i64w _ (by omega) (by omega)]; rfl, trivial⟩, ⟨i + 1, e, _, rfl, by omega, by omega, hel, ?_, ?_, hc14⟩, by dsimp only; omega⟩
          · dsimp only
            congr 1
            omega
          · rw [Nat.pow_succ]
            omega
          · rw [← dots_go hlt hb.symm hee.symm hcol ⟨hne, hmax', hnz⟩]
            exact he
        by_cases hb1 : b + 1 < e
        · rw [if_pos (by simp; omega)]
          refine Calls.then (is_ok (h1.chg hc14) b 48) ?_
          rintro v w5 ⟨rfl, rfl⟩
          refine ⟨_, rfl, ?_⟩
          refine ite_both (fun hx => ?_) (fun hx => ?_)
          · exact bad_to h0 hc14 (code := 150) (by omega) hel (by rw [← he, dots_bad hlt hb.symm hee.symm hcol fun hh => hh.2.2 ⟨hb1, hx⟩])
          · exact ⟨by omega, go fun hh => hx hh.2⟩
        · rw [if_neg (by simp; omega)]
          exact ⟨by omega, go fun hh => hb1 hh.1⟩
      · refine ⟨_, rfl, _, _, rfl, _, rfl, _, _, rfl, rfl, .inr ⟨_, _, rfl⟩, ?_⟩
        rw [if_neg (by simp [isNilI])]
        exact bad_to h0 hc14 (code := 150) (by omega) hel (by rw [← he, dots_bad hlt hb.symm hee.symm hcol fun hh => hn ⟨hh.1, hh.2.1⟩])
    · by_cases hi0 : i = 0
      · rw [if_neg (by simp; omega)]
        rw [if_pos hi0] at hb
        subst hb
        exact ⟨(at_ : Int), ⟨rfl, trivial⟩, rfl, .inl hi0, hka, hat, hc⟩
      · rw [if_pos (by simp; omega)]
        rw [if_neg hi0] at hb
        subst hb
        refine Calls.then (is_ok (h1.chg hc) at_ 46) ?_
        rintro v w2 ⟨rfl, rfl⟩
        refine ⟨_, rfl, ?_⟩
        refine ite_both (fun hx => ?_) (fun hx => ?_)
        · simp at hx
          exact bad_to h0 hc (code := 150) hka hat (by rw [← he, dots_no hlt fun hh => by rw [hx] at hh; rcases hh with h | h; exact hi0 h; cases h])
        · simp at hx
          have hx2 := hx
          simp [isAt] at hx2
          exact ⟨((at_ + 1 : Nat) : Int), ⟨by rw [i64w _ (by omega) (by omega)]; rfl, trivial⟩, rfl, .inr hx, by omega, by omega, hc⟩
  · rw [if_neg (by simp; omega)]
    have : i = 4 := by omega
    subst this
    rw [dots_end] at he
    exact put_to h0 hc hka hat ht hws he.symm

/-! ### the three tries; a variable that holds the reader -/
def Var (w : World) (q r : Nat) : Prop := w.heap[q]? = some (.cells #[.pointer (some ⟨r, 0, none⟩)] 98 (0, 0))
theorem Var.cell {w : World} {q r : Nat} (h : Var w q r) : w.cell? ⟨q, 0, none⟩ = some (.pointer (some ⟨r, 0, none⟩)) := by rw [cell_blk h]; rfl
/-- a try: done, with what; or not -/
abbrev TryR (w : World) (base r : Nat) (t : List UInt8) (k : Nat) (ws : List Wd) (o : Option One) : Value → World → Prop := fun v w' => match o with
  | some o => ∃ p, v = .tuple #[.pointer p, .bool true] ∧ Res w base r t k ws o (.pointer p) w'
  | none => v = .tuple #[.pointer none, .bool false] ∧ Chg NoS w w'
def try1 (t : List UInt8) (k : Nat) : Option One := match pairsAt t k with
  | some (m, e) => some (closedAt t e m)
  | none => none
theorem try1_ok {w : World} {base r k q : Nat} {t : List UInt8} {ws : List Wd} (h : RdO w base r t k ws) (hq : Var w q r) (hk : k ≤ t.length) (ht : t.length ≤ 65536) (hws : ws.length < 100000) (hE : Errs w) :
    Calls Tryz.prog 85 #[.pointer (some ⟨q, 0, none⟩)] w (endW (TryR w base r t k ws (try1 t k)) (fun _ _ => False)) := by
  refine F85_calls _ ?_
  delta F85
  have h0 := h
  obtain ⟨a, n, c, h1, h2, h3, h4, h5, h6⟩ := h
  refine some_i ⟨_, hq.cell, ?_⟩
  refine Calls.then (pairs_ok h1 hk ht hE) ?_
  rintro v w1 ⟨rfl, hc⟩
  unfold try1
  cases hp : pairsAt t k with
  | none =>
    refine ⟨_, rfl, _, _, rfl, _, rfl, _, _, rfl, _, rfl, _, _, rfl, _, rfl, rfl, ?_⟩
    rw [if_pos (by decide)]
    exact ⟨rfl, hc⟩
  | some x =>
    obtain ⟨m, e⟩ := x
    have hle := pr_le hp hk
    refine ⟨_, rfl, _, _, rfl, _, rfl, _, _, rfl, _, rfl, _, _, rfl, _, rfl, rfl, ?_⟩
    rw [if_neg (by decide)]
    refine some_i ⟨_, Var.cell (hc.blk hq fun x => x), ?_⟩
    refine Calls.then (put_to h0 hc hle.1 hle.2.1 ht hws (o := closedAt t e m) rfl) ?_
    rintro v w2 ⟨p, rfl, hr⟩
    exact ⟨p, rfl, p, rfl, hr⟩
def try3 (t : List UInt8) (k : Nat) : Option One := if isAt t (span isDig t k) 46 = true then some (dots t 0 k 0) else none
theorem try3_ok {w : World} {base r k q : Nat} {t : List UInt8} {ws : List Wd} (h : RdO w base r t k ws) (hq : Var w q r) (hk : k ≤ t.length) (ht : t.length ≤ 65536) (hws : ws.length < 100000) (hE : Errs w) :
    Calls Tryz.prog 88 #[.pointer (some ⟨q, 0, none⟩)] w (endW (TryR w base r t k ws (try3 t k)) (fun _ _ => False)) := by
  refine F88_calls _ ?_
  delta F88
  have h0 := h
  obtain ⟨a, n, c, h1, h2, h3, h4, h5, h6⟩ := h
  have hqd : w.drew.cell? ⟨q, 0, none⟩ = some (.pointer (some ⟨r, 0, none⟩)) := hq.cell
  have hcd := chg_drew w NoS
  refine ⟨NoS, fun x => x, some_i ⟨_, hqd, fun x => x, some_i ⟨_, hqd, fun x => x, some_i ⟨_, hqd, some_i ⟨fun x => x, _, h1.drew.at_, ?_⟩⟩⟩⟩⟩
  refine Calls.then (span18_ok h1.drew k hk ht) ?_
  rintro v w1 ⟨rfl, rfl⟩
  refine ⟨_, rfl, Kept.refl _ _, ?_⟩
  refine Calls.then (is_ok h1.drew _ 46) ?_
  rintro v w2 ⟨rfl, rfl⟩
  refine ⟨_, rfl, ?_⟩
  unfold try3
  refine ite_both (fun hx => ?_) (fun hx => ?_)
  · simp at hx
    rw [if_neg (by simp [hx])]
    exact ⟨rfl, hcd⟩
  · simp at hx
    rw [if_pos hx]
    refine some_i ⟨_, hqd, ?_⟩
    refine Calls.then (dotted_ok (h0.chg hcd) hk ht hws (hE.chg hcd)) ?_
    intro v w3 hr
    obtain ⟨p, rfl⟩ := hr.ptr
    exact ⟨p, rfl, p, rfl, hr.of_chg hcd⟩
def try2 (t : List UInt8) (k : Nat) : Option One := if isAt t k 48 = true ∧ isAt t (k + 1) 120 = true then some (hexNum t k) else none
theorem try2_ok {w : World} {base r k q : Nat} {t : List UInt8} {ws : List Wd} (h : RdO w base r t k ws) (hq : Var w q r) (hk : k ≤ t.length) (ht : t.length ≤ 65536) (hws : ws.length < 100000) (hE : Errs w) :
    Calls Tryz.prog 87 #[.pointer (some ⟨q, 0, none⟩)] w (endW (TryR w base r t k ws (try2 t k)) (fun _ _ => False)) := by
  refine F87_calls _ ?_
  delta F87
  have h0 := h
  obtain ⟨a, n, c, h1, h2, h3, h4, h5, h6⟩ := h
  have hqd : w.drew.cell? ⟨q, 0, none⟩ = some (.pointer (some ⟨r, 0, none⟩)) := hq.cell
  have hcd := chg_drew w NoS
  have e1 : IntKind.wrap .i64 ((k : Int) + 1) = ((k + 1 : Nat) : Int) := by rw [i64w _ (by omega) (by omega)]; rfl
  have e2 : IntKind.wrap .i64 ((k : Int) + 2) = ((k + 2 : Nat) : Int) := by rw [i64w _ (by omega) (by omega)]; rfl
  have e18 : IntKind.wrap .i64 ((k : Int) + 18) = ((k + 18 : Nat) : Int) := by rw [i64w _ (by omega) (by omega)]; rfl
  refine ⟨fun s w' => w' = w.drew ∧ isAt t k 48 = true ∧ isAt t (k + 1) 120 = true, ?_, ?_⟩
  · rintro s w1 ⟨rfl, hz, hx⟩ _
    have hr1 : Rd w.drew.drew r t k a n c := h1
    have hq1 : w.drew.drew.cell? ⟨q, 0, none⟩ = some (.pointer (some ⟨r, 0, none⟩)) := hqd
    have hx2 := hx
    simp [isAt] at hx2
    refine some_i ⟨_, hq1, some_i ⟨_, hq1, some_i ⟨_, hr1.at_, ?_⟩⟩⟩
    rw [e2]
    refine Calls.then (span36_ok hr1 (k + 2) (by omega) ht) ?_
    rintro v w2 ⟨rfl, rfl⟩
    have hr2 : Rd w.drew.drew.drew r t k a n c := h1
    have hq2 : w.drew.drew.drew.cell? ⟨q, 0, none⟩ = some (.pointer (some ⟨r, 0, none⟩)) := hqd
    have hc2 : Chg NoS w w.drew.drew.drew := (hcd.trans (chg_drew _ _)).trans (chg_drew _ _)
    generalize w.drew.drew.drew = w3 at hr2 hq2 hc2 ⊢
    have hsp := span_le isHex t (k + 2)
    have hcd2 := cut_dig isHex (t := t) (k := k + 2) (by omega)
    unfold try2
    rw [if_pos ⟨hz, hx⟩]
    unfold hexNum
    generalize hee : span isHex t (k + 2) = e at hsp hcd2
    have hel := hsp.2 (by omega)
    have hle := hsp.1
    refine ⟨_, rfl, some_i ⟨_, hq2, some_i ⟨_, hr2.s, some_i ⟨_, hq2, some_i ⟨_, hr2.at_, ?_⟩⟩⟩⟩⟩
    rw [e2]
    refine ⟨by omega, by rw [bs_size]; omega, by omega, by rw [Int.toNat_natCast]; omega, ?_⟩
    rw [Int.toNat_natCast, Int.toNat_natCast, ext_cut]
    refine Calls.then (Parse_ok w3 (cut t (k + 2) e) 16 64 (.inr rfl) (.inr rfl) (fun j hj => okD_hex' (hcd2 j hj)) (by rw [cut_length _ _ _ hle hel]; omega) (hE.chg hc2)) ?_
    rintro v w4 ⟨hv', hc4⟩
    have hc14 := hc2.trans hc4
    have hq4 : w4.cell? ⟨q, 0, none⟩ = some (.pointer (some ⟨r, 0, none⟩)) := hc4.sameOld.cell hq2
    rcases hv' with ⟨hne, hmax, rfl⟩ | ⟨hn, x, t1, z1, rfl⟩
    · have hmax' : vals 16 (cut t (k + 2) e) ≤ 18446744073709551615 := hmax
      refine ⟨_, rfl, _, _, rfl, _, rfl, _, _, rfl, rfl, .inl rfl, ?_⟩
      rw [if_pos (by simp [isNilI])]
      refine some_i ⟨_, hq4, some_i ⟨_, (hr2.chg hc4).at_, ?_⟩⟩
      rw [e18]
      by_cases h18 : k + 18 < e
      · rw [if_pos (by simp; omega), if_neg fun hh => hh.2.2 h18]
        refine some_i ⟨_, hq4, ?_⟩
        refine Calls.then (bad_to h0 hc14 (code := 150) (e := e) (by omega) hel rfl) ?_
        rintro v w5 ⟨p, rfl, hr⟩
        exact ⟨p, rfl, p, rfl, hr⟩
      · rw [if_neg (by simp; omega), if_pos ⟨hne, hmax', h18⟩]
        refine some_i ⟨_, hq4, ?_⟩
        refine Calls.then (put_to h0 hc14 (by omega) hel ht hws (o := closedAt t e (vals 16 (cut t (k + 2) e))) rfl) ?_
        rintro v w5 ⟨p, rfl, hr⟩
        exact ⟨p, rfl, p, rfl, hr⟩
    · refine ⟨_, rfl, _, _, rfl, _, rfl, _, _, rfl, rfl, .inr ⟨_, _, rfl⟩, ?_⟩
      rw [if_neg (by simp [isNilI]), if_neg fun hh => hn ⟨hh.1, hh.2.1⟩]
      refine some_i ⟨_, hq4, ?_⟩
      refine Calls.then (bad_to h0 hc14 (code := 150) (e := e) (by omega) hel rfl) ?_
      rintro v w5 ⟨p, rfl, hr⟩
      exact ⟨p, rfl, p, rfl, hr⟩
  · refine ⟨NoS, fun x => x, some_i ⟨_, hqd, fun x => x, some_i ⟨_, hqd, some_i ⟨fun x => x, _, h1.drew.at_, ?_⟩⟩⟩⟩
    have no : ¬ (isAt t k 48 = true ∧ isAt t (k + 1) 120 = true) → TryR w base r t k ws (try2 t k) (.tuple #[.pointer none, .bool false]) w.drew := fun hn => by
      unfold try2
      rw [if_neg hn]
      exact ⟨rfl, hcd⟩
    refine Calls.then (is_ok h1.drew k 48) ?_
    rintro v w1 ⟨rfl, rfl⟩
    refine ⟨_, rfl, Kept.refl _ _, ?_⟩
    refine ite_both (fun hx => ?_) (fun hx => ?_)
    · simp at hx
      refine ⟨fun x => x, some_i ⟨_, hqd, fun x => x, some_i ⟨_, hqd, some_i ⟨fun x => x, _, h1.drew.at_, ?_⟩⟩⟩⟩
      rw [e1]
      refine Calls.then (is_ok h1.drew (k + 1) 120) ?_
      rintro v w2 ⟨rfl, rfl⟩
      refine ⟨_, rfl, ?_⟩
      refine ite_both (fun hy => ?_) (fun hy => ?_)
      · simp at hy
        exact no fun hh => by rw [hy] at hh; exact absurd hh.2 (by decide)
      · simp at hy
        exact ⟨(), trivial, rfl, hx, hy⟩
    · simp at hx
      exact no fun hh => by rw [hx] at hh; exact absurd hh.1 (by decide)
end Go.Proofs.YtpolbdakhfcilaaGreatDoor.B

/-
  scan: number, word.
-/
set_option maxRecDepth 100000
set_option linter.unusedVariables false
set_option linter.unusedSimpArgs false
namespace Go.Proofs.YtpolbdakhfcilaaGreatDoor.B
open Go Go.Proofs Go.Proofs.YtpolbdakhfcilaaGreatDoorEng Go.RowKit

theorem number_ok {w : World} {base r k : Nat} {t : List UInt8} {ws : List Wd} (h : RdO w base r t k ws) (hk : k ≤ t.length) (ht : t.length ≤ 65536) (hws : ws.length < 100000) (hE : Errs w) :
    Calls Tryz.prog 69 #[.pointer (some ⟨r, 0, none⟩)] w (endW (Res w base r t k ws (numAt t k)) (fun _ _ => False)) := by
  refine F69_calls _ ?_
  delta F69
  have hq1 : (w.alloc (.cells #[.pointer (some ⟨r, 0, none⟩)] 98)).heap[w.heap.size]? = some (.cells #[.pointer (some ⟨r, 0, none⟩)] 98 (0, 0)) := blk_alloc w _
  have hs1 : (w.alloc (.cells #[.pointer (some ⟨r, 0, none⟩)] 98)).heap.size = w.heap.size + 1 := size_alloc w _
  have hc1 : Chg NoS w (w.alloc (.cells #[.pointer (some ⟨r, 0, none⟩)] 98)) := chg_alloc w _ _
  generalize w.alloc (.cells #[.pointer (some ⟨r, 0, none⟩)] 98) = w1 at hq1 hs1 hc1 ⊢
  have hf := blk_alloc w1 (.cells #[.func (.func 85) #[] #[.pointer (some ⟨w.heap.size, 0, none⟩)], .func (.func 87) #[] #[.pointer (some ⟨w.heap.size, 0, none⟩)], .func (.func 88) #[] #[.pointer (some ⟨w.heap.size, 0, none⟩)]] 129)
  have hc2 := hc1.trans (chg_alloc w1 (.cells #[.func (.func 85) #[] #[.pointer (some ⟨w.heap.size, 0, none⟩)], .func (.func 87) #[] #[.pointer (some ⟨w.heap.size, 0, none⟩)], .func (.func 88) #[] #[.pointer (some ⟨w.heap.size, 0, none⟩)]] 129) NoS)
  have hq2 : Var (w1.alloc (.cells #[.func (.func 85) #[] #[.pointer (some ⟨w.heap.size, 0, none⟩)], .func (.func 87) #[] #[.pointer (some ⟨w.heap.size, 0, none⟩)], .func (.func 88) #[] #[.pointer (some ⟨w.heap.size, 0, none⟩)]] 129)) w.heap.size r := (chg_alloc w1 _ NoS).blk hq1 fun x => x
  generalize w1.alloc (.cells #[.func (.func 85) #[] #[.pointer (some ⟨w.heap.size, 0, none⟩)], .func (.func 87) #[] #[.pointer (some ⟨w.heap.size, 0, none⟩)], .func (.func 88) #[] #[.pointer (some ⟨w.heap.size, 0, none⟩)]] 129) = w2 at hf hc2 hq2 ⊢
  generalize hq : w.heap.size = q at *
  refine ⟨fun s w' => ∃ i : Nat, s = (i : Int) ∧ i ≤ 3 ∧ Chg NoS w2 w' ∧ (1 ≤ i → try1 t k = none) ∧ (2 ≤ i → try2 t k = none) ∧ (3 ≤ i → try3 t k = none), fun s _ => (3 - s).toNat, ⟨0, ⟨rfl, trivial⟩, 0, rfl, by omega, Chg.refl _ _, fun h => by omega, fun h => by omega, fun h => by omega⟩, ?_⟩
  rintro _ w3 ⟨i, rfl, hi, hc3, n1, n2, n3⟩ _
  have hc23 := hc2.trans hc3
  have h3 := h.chg hc23
  have hq3 : Var w3 q r := hc3.blk hq2 fun x => x
  have hf3 := hc3.blk hf fun x => x
  have cell : ∀ j : Nat, w3.cell? (addK ⟨w1.heap.size, 0, none⟩ ((j : Int).toNat * 1)) = (#[.func (.func 85) #[] #[.pointer (some ⟨q, 0, none⟩)], .func (.func 87) #[] #[.pointer (some ⟨q, 0, none⟩)], .func (.func 88) #[] #[.pointer (some ⟨q, 0, none⟩)]] : Array Value)[j]? := fun j => by
    rw [Int.toNat_natCast, Nat.mul_one, addK_lit, Nat.zero_add, cell_blk hf3]
  by_cases hlt : i < 3
  · rw [if_pos (by simp; omega)]
    refine ⟨by omega, by omega, ?_⟩
    have body : ∀ (o : Option One), (∀ o', o = some o' → numAt t k = o') → (o = none → (1 ≤ i + 1 → try1 t k = none) ∧ (2 ≤ i + 1 → try2 t k = none) ∧ (3 ≤ i + 1 → try3 t k = none)) → ∀ v w', TryR w3 base r t k ws o v w' →
        ∃ (vs : List Value), v = Value.tuple (List.toArray vs) ∧ ∃ (v : Value), ∃ (rest : List Value), vs = v :: rest ∧ ∃ (p : Option Addr), v = Value.pointer p ∧ ∃ (v : Value), ∃ (rest_1 : List Value), rest = v :: rest_1 ∧ ∃ (b : Bool), v = Value.bool b ∧ rest_1 = [] ∧ if b = Bool.true then Res w base r t k ws (numAt t k) (Value.pointer p) w' else ∃ (s' : Int), (Value.int IntKind.i64 s' = Value.int IntKind.i64 (IntKind.wrap IntKind.i64 ((i : Int) + 1)) ∧ True) ∧ (∃ i : Nat, s' = (i : Int) ∧ i ≤ 3 ∧ Chg NoS w2 w' ∧ (1 ≤ i → try1 t k = none) ∧ (2 ≤ i → try2 t k = none) ∧ (3 ≤ i → try3 t k = none)) ∧ (3 - s').toNat < (3 - (i : Int)).toNat := fun o ho hn v w' hr => by
      cases o with
      | some o' =>
        obtain ⟨p, rfl, hr⟩ := hr
        refine ⟨_, rfl, _, _, rfl, _, rfl, _, _, rfl, _, rfl, rfl, ?_⟩
        rw [if_pos rfl, ho o' rfl]
        exact hr.of_chg hc23
      | none =>
        obtain ⟨rfl, hc⟩ := hr
        refine ⟨_, rfl, _, _, rfl, _, rfl, _, _, rfl, _, rfl, rfl, ?_⟩
        rw [if_neg (by decide)]
        exact ⟨((i + 1 : Nat) : Int), ⟨by rw [i64w _ (by omega) (by omega)]; rfl, trivial⟩, ⟨i + 1, rfl, by omega, hc3.trans hc, hn rfl⟩, by omega⟩
    have : i = 0 ∨ i = 1 ∨ i = 2 := by omega
    rcases this with rfl | rfl | rfl
    · refine .inl ⟨some ⟨q, 0, none⟩, cell 0, ?_⟩
      refine Calls.then (try1_ok h3 hq3 hk ht hws (hE.chg hc23)) ?_
      refine body _ (fun o' e => ?_) (fun e => ⟨fun _ => e, fun h => by omega, fun h => by omega⟩)
      unfold try1 at e
      unfold numAt
      cases hp : pairsAt t k with
      | none => rw [hp] at e; cases e
      | some x =>
        obtain ⟨m, e1⟩ := x
        rw [hp] at e
        injection e
    · refine .inr (.inl ⟨some ⟨q, 0, none⟩, cell 1, ?_⟩)
      refine Calls.then (try2_ok h3 hq3 hk ht hws (hE.chg hc23)) ?_
      have hp : pairsAt t k = none := by
        have := n1 (by omega)
        unfold try1 at this
        cases hp : pairsAt t k with
        | none => rfl
        | some x => rw [hp] at this; cases this
      refine body _ (fun o' e => ?_) (fun e => ⟨fun _ => n1 (by omega), fun h => e, fun h => by omega⟩)
      unfold try2 at e
      unfold numAt
      rw [hp]
      split at e
      · rename_i hx
        simp only [if_pos hx]
        injection e
      · cases e
    · refine .inr (.inr ⟨some ⟨q, 0, none⟩, cell 2, ?_⟩)
      refine Calls.then (try3_ok h3 hq3 hk ht hws (hE.chg hc23)) ?_
      have hp : pairsAt t k = none := by
        have := n1 (by omega)
        unfold try1 at this
        cases hp : pairsAt t k with
        | none => rfl
        | some x => rw [hp] at this; cases this
      have hx : ¬ (isAt t k 48 = true ∧ isAt t (k + 1) 120 = true) := fun hx => by
        have := n2 (by omega)
        unfold try2 at this
        rw [if_pos hx] at this
        cases this
      refine body _ (fun o' e => ?_) (fun e => ⟨fun _ => n1 (by omega), fun h => n2 (by omega), fun h => e⟩)
      unfold try3 at e
      unfold numAt
      rw [hp]
      split at e
      · rename_i hy
        simp only [if_neg hx, if_pos hy]
        injection e
      · cases e
  · rw [if_neg (by simp; omega)]
    have : i = 3 := by omega
    subst this
    have hnum : numAt t k = decNum t k := by
      have a1 := n1 (by omega)
      have a2 := n2 (by omega)
      have a3 := n3 (by omega)
      unfold try1 at a1
      unfold try2 at a2
      unfold try3 at a3
      unfold numAt
      cases hp : pairsAt t k with
      | some x => rw [hp] at a1; cases a1
      | none =>
        have hx : ¬ (isAt t k 48 = true ∧ isAt t (k + 1) 120 = true) := fun hx => by rw [if_pos hx] at a2; cases a2
        have hy : ¬ (isAt t (span isDig t k) 46 = true) := fun hy => by rw [if_pos hy] at a3; cases a3
        simp only [if_neg hx, if_neg hy]
    rw [hnum]
    have h0 := h
    obtain ⟨a, n, c, h1, h2', h3', h4, h5, h6⟩ := h
    have hr3 : Rd w3.drew r t k a n c := (h1.chg hc23).drew
    have hqd : w3.drew.cell? ⟨q, 0, none⟩ = some (.pointer (some ⟨r, 0, none⟩)) := hq3.cell
    have hcd : Chg NoS w w3.drew := hc23.trans (chg_drew _ _)
    refine ⟨_, hqd, _, hqd, some_i ⟨_, hr3.at_, ?_⟩⟩
    refine Calls.then (span18_ok hr3 k hk ht) ?_
    rintro v w4 ⟨rfl, rfl⟩
    have hr4 : Rd w3.drew.drew r t k a n c := hr3
    have hq4 : w3.drew.drew.cell? ⟨q, 0, none⟩ = some (.pointer (some ⟨r, 0, none⟩)) := hqd
    have hc4 : Chg NoS w w3.drew.drew := hcd.trans (chg_drew _ _)
    have hsp := span_le isDig t k
    have hcd2 := cut_dig isDig (t := t) (k := k) hk
    unfold decNum
    refine ⟨_, rfl, _, hq4, some_i ⟨_, hr4.s, _, hq4, some_i ⟨_, hr4.at_, ?_⟩⟩⟩
    generalize w3.drew.drew = w5 at hr4 hq4 hc4 ⊢
    generalize hee : span isDig t k = e at hsp hcd2
    have hel := hsp.2 hk
    have hle := hsp.1
    refine ⟨by omega, by rw [bs_size]; omega, by omega, by rw [Int.toNat_natCast]; omega, ?_⟩
    rw [Int.toNat_natCast, Int.toNat_natCast, ext_cut]
    refine Calls.then (Parse_ok w5 (cut t k e) 10 64 (.inl rfl) (.inr rfl) (fun j hj => okD_dig (hcd2 j hj)) (by rw [cut_length _ _ _ hle hel]; omega) (hE.chg hc4)) ?_
    rintro v w6 ⟨hv', hc6⟩
    have hc16 := hc4.trans hc6
    have hq6 : w6.cell? ⟨q, 0, none⟩ = some (.pointer (some ⟨r, 0, none⟩)) := hc6.sameOld.cell hq4
    have hr6 := hr4.chg hc6
    have hq6d : w6.drew.cell? ⟨q, 0, none⟩ = some (.pointer (some ⟨r, 0, none⟩)) := hq6
    have hr6d : Rd w6.drew r t k a n c := hr6
    have hc16d : Chg NoS w w6.drew := hc16.trans (chg_drew _ _)
    have e1 : IntKind.wrap .i64 ((k : Int) + 1) = ((k + 1 : Nat) : Int) := by rw [i64w _ (by omega) (by omega)]; rfl
    rcases hv' with ⟨hne, hmax, rfl⟩ | ⟨hn, x, t1, z1, rfl⟩
    · have hmax' : vals 10 (cut t k e) ≤ 18446744073709551615 := hmax
      refine ⟨_, rfl, _, _, rfl, _, rfl, _, _, rfl, rfl, .inl rfl, ?_⟩
      rw [if_neg (by simp [isNilI]), if_pos ⟨hne, hmax'⟩]
      refine ⟨_, hq6d, some_i ⟨_, hr6d.at_, ?_⟩⟩
      rw [e1]
      by_cases hk1 : k + 1 < e
      · rw [if_pos (by simp; omega)]
        refine ⟨_, hq6d, _, hq6d, some_i ⟨_, hr6d.at_, ?_⟩⟩
        refine Calls.then (is_ok hr6d k 48) ?_
        rintro v w7 ⟨rfl, rfl⟩
        refine ⟨_, rfl, ?_⟩
        refine ite_both (fun hz => ?_) (fun hz => ?_)
        · refine ⟨_, hq6d, ?_⟩
          exact bad_to h0 hc16d (code := 150) (e := e) hle hel (by rw [if_pos ⟨hk1, hz⟩])
        · refine ⟨_, hq6d, ?_⟩
          exact put_to h0 hc16d hle hel ht hws (by rw [if_neg fun hh => hz hh.2])
      · rw [if_neg (by simp; omega)]
        refine ⟨_, hq6d, ?_⟩
        exact put_to h0 hc16d hle hel ht hws (by rw [if_neg fun hh => hk1 hh.1])
    · refine ⟨_, rfl, _, _, rfl, _, rfl, _, _, rfl, rfl, .inr ⟨_, _, rfl⟩, ?_⟩
      rw [if_pos (by simp [isNilI])]
      have hn' : ¬ (cut t k e ≠ [] ∧ vals 10 (cut t k e) ≤ 18446744073709551615) := hn
      rw [if_neg hn']
      refine ⟨_, hq6, ?_⟩
      exact bad_to h0 hc16 (code := 3) (e := e) hle hel rfl
end Go.Proofs.YtpolbdakhfcilaaGreatDoor.B

/-
  scan: a word; blanks and remarks.
-/
set_option maxRecDepth 100000
set_option linter.unusedVariables false
set_option linter.unusedSimpArgs false
namespace Go.Proofs.YtpolbdakhfcilaaGreatDoor.B
open Go Go.Proofs Go.Proofs.YtpolbdakhfcilaaGreatDoorEng Go.RowKit

theorem lay1 {w : World} {base r k n c : Nat} {t : List UInt8} {ws : List Wd} {a : Option Addr} {x : Wd} {K : World → Prop} {E : PanW} (h1 : Rd w r t k a n c) (h2 : w.ownsRow base 71 4 (.slice a n c) n (wcells ws)) (h3 : n = ws.length) (h4 : r < base) (h5 : base ≤ w.heap.size) (hws : ws.length < 100000)
    (hK : ∀ w' a' c', w'.heap[r]? = some (.cells #[.string (bs t), .int .i64 (k : Int), .slice a' (n + 1) c'] 100 (0, 0)) → w'.ownsRow base 71 4 (.slice a' (n + 1) c') (n + 1) (wcells (ws ++ [x])) → Chg (fun b => r ≤ b) w w' → K w') :
    runV Tryz.prog (Builtin.append_ #[58, 58] 58 #[.slice a n c, .slice (some ⟨w.heap.size, 0, none⟩) 1 1]) (w.alloc (wobj x)) (fun (v : Value) (w : World) => ∃ (a : Option Addr), ∃ (n : Nat), ∃ (c : Nat), v = Value.slice a n c ∧ wSome (some ⟨r, 0, none⟩) fun (A : Addr) => setW w (addK A (2 : Nat)) (Value.slice a n c) K) E := by
  refine push_ok (x := x) h2 (by omega) h5 ?_
  intro a' c' w2 ho2 hc2
  refine ⟨_, _, _, rfl, ?_⟩
  have hb2 : w2.heap[r]? = some (.cells #[.string (bs t), .int .i64 (k : Int), .slice a n c] 100 (0, 0)) := hc2.blk h1 (by omega)
  refine some_i (set2 hb2 rfl ?_)
  intro w3 hb3 hc3 hs3
  exact hK w3 a' c' hb3 (own_of_chg ho2 hc3 fun b hb hx => by have := (own_lt' ho2 hb).2; have : b = r := hx; omega) ((hc2.mono fun b _ hb => by omega).trans (hc3.mono fun b _ hb => by rw [show b = r from hb]; exact Nat.le_refl _))
theorem lay2 {w0 w : World} {base r k n e : Nat} {t : List UInt8} {ws : List Wd} {a' : Option Addr} {c' : Nat} {v : Value} {x : Wd} {K : World → Prop} (hb : w.heap[r]? = some (.cells #[.string (bs t), .int .i64 (k : Int), .slice a' (n + 1) c'] 100 (0, 0))) (ho : w.ownsRow base 71 4 (.slice a' (n + 1) c') (n + 1) (wcells (ws ++ [x]))) (hc : Chg (fun b => r ≤ b) w0 w) (h3 : n = ws.length) (h4 : r < base) (h5 : base ≤ w0.heap.size) (hws : ws.length < 100000)
    (hv : v = .int .i64 (e : Int)) (hK : ∀ w', RdO w' base r t e (ws ++ [x]) → Chg (fun b => r ≤ b) w0 w' → K w') : setW w (addK ⟨r, 0, none⟩ 1) v K := by
  subst hv
  refine set1 hb rfl ?_
  intro w4 hb4 hc4 hs4
  have hc14 := hc.trans (hc4.mono fun b _ hb => by rw [show b = r from hb]; exact Nat.le_refl _)
  refine hK w4 ⟨a', n + 1, c', hb4, ?_, by simp [h3], h4, by have := hc14.size; omega, by simp; omega⟩ hc14
  exact own_of_chg ho hc4 fun b hb hx => by have := (own_lt' ho hb).2; have : b = r := hx; omega

def signs : List Nat := [43, 59, 42, 61, 33, 38, 124, 40, 41, 123, 125]
def oneAt (t : List UInt8) (k : Nat) : One :=
  if (pairsAt t k).isSome = true ∨ isDig (g t k) = true then numAt t k
  else if isLet (g t k) = true then (if k + 32 < span isAl t k then .bad 3 (span isAl t k) else .ok 1 (span isAl t k) 0)
  else if g t k = 58 then (if isAt t (k + 1) 61 = true then .ok 3 (k + 2) 0 else .bad 150 (k + 1))
  else if g t k ∈ signs then .ok 3 (k + 1) 0 else .bad 150 (k + 1)
theorem word_ok {w : World} {base r k : Nat} {t : List UInt8} {ws : List Wd} (h : RdO w base r t k ws) (hk : k < t.length) (ht : t.length ≤ 65536) (hws : ws.length < 100000) (hE : Errs w) :
    Calls Tryz.prog 47 #[.pointer (some ⟨r, 0, none⟩)] w (endW (Res w base r t k ws (oneAt t k)) (fun _ _ => False)) := by
  refine F47_calls _ ?_
  delta F47
  have h0 := h
  obtain ⟨a, n, c, h1, h2, h3, h4, h5, h6⟩ := h
  have hcd := chg_drew w NoS
  refine some_i (some_i ⟨_, h1.drew.s, _, h1.drew.at_, by omega, by rw [bs_size]; omega, ?_⟩)
  rw [g_at]
  generalize hg : g t k = b
  have hnum : (pairsAt t k).isSome = true ∨ isDig b = true → ∀ w1 : World, Chg NoS w w1 → Calls Tryz.prog 69 #[.pointer (some ⟨r, 0, none⟩)] w1 (endW (fun (v : Value) (w' : World) => ∃ (p : Option Addr), v = Value.pointer p ∧ Res w base r t k ws (oneAt t k) (Value.pointer p) w') (fun _ _ => False)) := fun hy w1 hc => by
    refine Calls.then (number_ok (h0.chg hc) (Nat.le_of_lt hk) ht hws (hE.chg hc)) ?_
    intro v w2 hr
    obtain ⟨p, rfl⟩ := hr.ptr
    refine ⟨p, rfl, ?_⟩
    unfold oneAt
    rw [hg, if_pos hy]
    exact hr.of_chg hc
  refine ⟨fun s w' => Chg NoS w w' ∧ ¬ ((pairsAt t k).isSome = true ∨ isDig b = true), ?_, ?_⟩
  · rintro _ w1 ⟨hc1, hno⟩ _
    have hr1 := h1.chg hc1
    refine Calls.then (letter_ok w1 b) ?_
    rintro v w2 ⟨rfl, rfl⟩
    refine ⟨_, rfl, ?_⟩
    refine ite_both (fun hl => ?_) (fun hl => ?_)
    · have hone : oneAt t k = if k + 32 < span isAl t k then .bad 3 (span isAl t k) else .ok 1 (span isAl t k) 0 := by
        unfold oneAt
        rw [hg, if_neg hno, if_pos hl]
      rw [hone]
      refine some_i ⟨_, hr1.at_, ?_⟩
      refine Calls.then (span22_ok hr1 k (Nat.le_of_lt hk) ht) ?_
      rintro v w3 ⟨rfl, rfl⟩
      have hsp := span_le isAl t k
      generalize span isAl t k = e at hsp ⊢
      have hel := hsp.2 (Nat.le_of_lt hk)
      have hle := hsp.1
      have e32 : IntKind.wrap .i64 ((k : Int) + 32) = ((k + 32 : Nat) : Int) := by rw [i64w _ (by omega) (by omega)]; rfl
      refine ⟨_, rfl, some_i ⟨_, hr1.at_, ?_⟩⟩
      rw [e32]
      by_cases h32 : k + 32 < e
      · rw [if_pos (by simp; omega), if_pos h32]
        exact bad_to h0 hc1 (code := 3) hle hel rfl
      · rw [if_neg (by simp; omega), if_neg h32]
        refine some_i (some_i (some_i (some_i ⟨_, _, _, hr1.drew.l, _, hr1.drew.s, _, hr1.drew.at_, by omega, by rw [bs_size]; omega, by omega, by rw [Int.toNat_natCast]; omega, _, hr1.drew.at_, (chg_alloc w3.drew _ NoS).sameOld, ?_⟩)))
        rw [Int.toNat_natCast, Int.toNat_natCast, ext_cut]
        have hc1d := hc1.trans (chg_drew w3 NoS)
        refine lay1 (x := ⟨1, cut t k e, 0, k⟩) hr1.drew (own_of_chg h2 hc1d fun _ _ x => x) h3 h4 (by have := hc1d.size; omega) hws ?_
        intro w4 a' c' hb4 ho4 hc4
        refine some_i (lay2 hb4 ho4 hc4 h3 h4 (by have := hc1d.size; omega) hws rfl ?_)
        intro w5 hr5 hc5
        exact ⟨(hc1d.mono fun _ _ x => x.elim).trans hc5, rfl, hr5⟩
    · have hone : oneAt t k = if b = 58 then (if isAt t (k + 1) 61 = true then .ok 3 (k + 2) 0 else .bad 150 (k + 1)) else if b ∈ signs then .ok 3 (k + 1) 0 else .bad 150 (k + 1) := by
        unfold oneAt
        rw [hg, if_neg hno, if_neg hl]
      have e1 : IntKind.wrap .i64 ((k : Int) + 1) = ((k + 1 : Nat) : Int) := by rw [i64w _ (by omega) (by omega)]; rfl
      refine ⟨fun s w' => ∃ m : Nat, s = (m : Int) ∧ m ≤ 2 ∧ k + m ≤ t.length ∧ oneAt t k = .ok 3 (k + m) 0 ∧ w' = w2, ?_, ?_⟩
      · rintro _ w3 ⟨m, rfl, hm2, hml, ho, rfl⟩ _
        rw [ho]
        have em : IntKind.wrap .i64 ((k : Int) + (m : Int)) = ((k + m : Nat) : Int) := by rw [i64w _ (by omega) (by omega)]; rfl
        refine some_i (some_i (some_i (some_i (some_i ⟨_, _, _, hr1.drew.l, _, hr1.drew.s, _, hr1.drew.at_, _, hr1.drew.at_, ?_⟩))))
        rw [em]
        refine ⟨by omega, by rw [bs_size]; omega, by omega, by rw [Int.toNat_natCast]; omega, _, hr1.drew.at_, (chg_alloc w3.drew _ NoS).sameOld, ?_⟩
        rw [Int.toNat_natCast, Int.toNat_natCast, ext_cut]
        have hc1d := hc1.trans (chg_drew w3 NoS)
        refine lay1 (x := ⟨3, cut t k (k + m), 0, k⟩) hr1.drew (own_of_chg h2 hc1d fun _ _ x => x) h3 h4 (by have := hc1d.size; omega) hws ?_
        intro w4 a' c' hb4 ho4 hc4
        refine some_i ⟨_, by rw [addK_lit, cell_blk hb4]; rfl, some_i (lay2 (e := k + m) hb4 ho4 hc4 h3 h4 (by have := hc1d.size; omega) hws (by rw [em]) ?_)⟩
        intro w5 hr5 hc5
        exact ⟨(hc1d.mono fun _ _ x => x.elim).trans hc5, rfl, hr5⟩
      · have sign : b ≠ 58 → b ∈ signs → ∃ (s : Int), (Value.int IntKind.i64 s = Value.int IntKind.i64 (1 : Int) ∧ True) ∧ ∃ m : Nat, s = (m : Int) ∧ m ≤ 2 ∧ k + m ≤ t.length ∧ oneAt t k = .ok 3 (k + m) 0 ∧ w2 = w2 := fun h58 hs => ⟨1, ⟨rfl, trivial⟩, 1, rfl, by omega, by omega, by rw [hone, if_neg h58, if_pos hs], rfl⟩
        have none_ : b ≠ 58 → ¬ b ∈ signs → wSome (some ⟨r, 0, none⟩) fun (A : Addr) => ∃ (x : Int), World.cell? w2 (addK A (1 : Nat)) = Option.some (Value.int IntKind.i64 x) ∧ Calls Tryz.prog (73 : Nat) #[Value.pointer (some ⟨r, 0, none⟩), Value.int IntKind.i64 (150 : Int), Value.int IntKind.i64 (IntKind.wrap IntKind.i64 (x + (1 : Int)))] w2 (endW (fun (v : Value) (w' : World) => ∃ (p : Option Addr), v = Value.pointer p ∧ Res w base r t k ws (oneAt t k) (Value.pointer p) w') (fun _ _ => False)) := fun h58 hs => by
          refine some_i ⟨_, hr1.at_, ?_⟩
          rw [e1]
          exact bad_to h0 hc1 (code := 150) (e := k + 1) (by omega) (by omega) (by rw [hone, if_neg h58, if_neg hs])
        by_cases h58 : b = 58
        · rw [if_pos (by simp [h58])]
          refine some_i ⟨_, hr1.at_, ?_⟩
          rw [e1]
          refine Calls.then (is_ok hr1 (k + 1) 61) ?_
          rintro v w3 ⟨rfl, rfl⟩
          refine ⟨_, rfl, ?_⟩
          refine ite_both (fun hx => ?_) (fun hx => ?_)
          · simp at hx
            refine some_i ⟨_, hr1.at_, ?_⟩
            rw [e1]
            exact bad_to h0 hc1 (code := 150) (e := k + 1) (by omega) (by omega) (by rw [hone, if_pos h58, if_neg (by simp [hx])])
          · simp at hx
            have hx2 := hx
            simp [isAt] at hx2
            exact ⟨2, ⟨rfl, trivial⟩, 2, rfl, by omega, by omega, by rw [hone, if_pos h58, if_pos hx], rfl⟩
        · rw [if_neg (by rw [show ((b : Int) == 58) = decide (b = 58) from beq_nat b 58]; simp [h58])]
          have q : ∀ m : Nat, ((b : Int) == (m : Int)) = decide (b = m) := beq_nat b
          rw [show ((b : Int) == 43) = decide (b = 43) from q 43, show ((b : Int) == 59) = decide (b = 59) from q 59, show ((b : Int) == 42) = decide (b = 42) from q 42, show ((b : Int) == 61) = decide (b = 61) from q 61, show ((b : Int) == 33) = decide (b = 33) from q 33, show ((b : Int) == 38) = decide (b = 38) from q 38, show ((b : Int) == 124) = decide (b = 124) from q 124, show ((b : Int) == 40) = decide (b = 40) from q 40, show ((b : Int) == 41) = decide (b = 41) from q 41, show ((b : Int) == 123) = decide (b = 123) from q 123, show ((b : Int) == 125) = decide (b = 125) from q 125]
          repeat' (first
            | refine ite_both (fun _ => ?_) (fun _ => ?_)
            | exact sign h58 (by simp [signs] at *; omega)
            | (refine none_ h58 ?_; simp [signs] at *; omega))
  · refine Calls.then (pairs_ok h1.drew (Nat.le_of_lt hk) ht (hE.chg hcd)) ?_
    rintro v w1 ⟨rfl, hc⟩
    have hc1 := hcd.trans hc
    cases hp : pairsAt t k with
    | none =>
      refine ⟨_, rfl, _, _, rfl, _, rfl, _, _, rfl, _, rfl, _, _, rfl, _, rfl, rfl, ?_⟩
      rw [if_pos (by decide)]
      refine Calls.then (digit_ok w1 b) ?_
      rintro v w2 ⟨rfl, rfl⟩
      refine ⟨_, rfl, ?_⟩
      refine ite_both (fun hd => ?_) (fun hd => ?_)
      · exact hnum (.inr hd) w2 hc1
      · exact ⟨(), trivial, hc1, fun hh => by rcases hh with hh | hh; cases hh; exact hd hh⟩
    | some x =>
      obtain ⟨m, e⟩ := x
      refine ⟨_, rfl, _, _, rfl, _, rfl, _, _, rfl, _, rfl, _, _, rfl, _, rfl, rfl, ?_⟩
      rw [if_neg (by decide)]
      exact hnum (.inl (by first | rfl | (rw [hp]; rfl))) w1 hc1
end Go.Proofs.YtpolbdakhfcilaaGreatDoor.B

/-
  scan: blanks and remarks.
-/
set_option maxRecDepth 100000
set_option linter.unusedVariables false
set_option linter.unusedSimpArgs false
namespace Go.Proofs.YtpolbdakhfcilaaGreatDoor.B
open Go Go.Proofs Go.Proofs.YtpolbdakhfcilaaGreatDoorEng Go.RowKit

/-- behind blanks and remarks -/
def sk (t : List UInt8) (rem : Bool) (k : Nat) : Nat :=
  if k < t.length then (if g t k = 10 then sk t false (k + 1) else if rem = true then sk t true (k + 1) else if g t k = 32 ∨ g t k = 9 ∨ g t k = 13 then sk t false (k + 1) else if g t k = 35 then sk t true (k + 1) else k) else k
termination_by t.length - k
theorem sk_end {t : List UInt8} {rem : Bool} {k : Nat} (h : ¬ k < t.length) : sk t rem k = k := by rw [sk, if_neg h]
theorem sk_nl {t : List UInt8} {rem : Bool} {k : Nat} (h : k < t.length) (hc : g t k = 10) : sk t rem k = sk t false (k + 1) := by rw [sk, if_pos h, if_pos hc]
theorem sk_rem {t : List UInt8} {k : Nat} (h : k < t.length) (hc : g t k ≠ 10) : sk t true k = sk t true (k + 1) := by rw [sk, if_pos h, if_neg hc, if_pos rfl]
theorem sk_blank {t : List UInt8} {k : Nat} (h : k < t.length) (hc : g t k = 32 ∨ g t k = 9 ∨ g t k = 13) : sk t false k = sk t false (k + 1) := by
  rw [sk, if_pos h, if_neg (by omega), if_neg (by decide), if_pos hc]
theorem sk_hash {t : List UInt8} {k : Nat} (h : k < t.length) (hc : g t k = 35) : sk t false k = sk t true (k + 1) := by
  rw [sk, if_pos h, if_neg (by omega), if_neg (by decide), if_neg (by omega), if_pos hc]
theorem sk_stop {t : List UInt8} {k : Nat} (h : k < t.length) (h1 : g t k ≠ 10) (h2 : ¬ (g t k = 32 ∨ g t k = 9 ∨ g t k = 13)) (h3 : g t k ≠ 35) : sk t false k = k := by
  rw [sk, if_pos h, if_neg h1, if_neg (by decide), if_neg h2, if_neg h3]
theorem sk_high {t : List UInt8} : ∀ (m k : Nat), (∀ j, j < m → k + j < t.length ∧ 128 ≤ g t (k + j)) → sk t true k = sk t true (k + m)
  | 0, k, _ => rfl
  | m + 1, k, h => by
    have h0 : k < t.length ∧ 128 ≤ g t k := h 0 (by omega)
    rw [sk_rem h0.1 (by have := h0.2; omega), sk_high m (k + 1) (fun j hj => by have := h (j + 1) (by omega); rw [show k + 1 + j = k + (j + 1) by omega]; exact this), show k + 1 + m = k + (m + 1) by omega]
theorem sk_le (t : List UInt8) (rem : Bool) (k : Nat) : k ≤ sk t rem k ∧ (k ≤ t.length → sk t rem k ≤ t.length) := by
  by_cases h : k < t.length
  · have i1 := sk_le t false (k + 1)
    have i2 := sk_le t true (k + 1)
    rw [sk, if_pos h]
    repeat' (first | omega | split)
  · rw [sk_end h]
    exact ⟨Nat.le_refl _, fun h => h⟩
termination_by t.length - k

/-! ### a rune -/
theorem get_g (u : List UInt8) (j : Nat) : ((bs u).get! j).toNat = g u j := by
  unfold g
  show (((bs u).data)[j]!).toNat = _
  simp [bs, List.getD_eq_getElem?_getD, getElem!_def]
  cases u[j]? <;> rfl
theorem dec_low {u : List UInt8} {p : Nat} (h : g u p < 128) : Utf8.decode (bs u) p = (g u p, 1) := by
  have h0 : ((bs u).get! (p + 0)).toNat = g u p := get_g u p
  simp only [Utf8.decode, h0, h, if_true]
theorem dec_high {u : List UInt8} {p : Nat} (hp : p < u.length) (h : 128 ≤ g u p) : 128 ≤ (Utf8.decode (bs u) p).1 ∧ 1 ≤ (Utf8.decode (bs u) p).2 ∧ ∀ j, j < (Utf8.decode (bs u) p).2 → p + j < u.length ∧ 128 ≤ g u (p + j) := by
  have h0 : ((bs u).get! (p + 0)).toNat = g u p := get_g u p
  have h1 := get_g u (p + 1)
  have h2 := get_g u (p + 2)
  have h3 := get_g u (p + 3)
  have hs := bs_size u
  have hn : ¬ g u p < 128 := by omega
  have b0 := g_lt u p
  have one : ∀ j, j < 1 → p + j < u.length ∧ 128 ≤ g u (p + j) := fun j hj => by
    have : j = 0 := by omega
    subst this
    exact ⟨hp, h⟩
  simp only [Utf8.decode, h0, h1, h2, h3, hs, hn, if_false]
  by_cases c1 : (g u p / 32 == 6 && (decide (p + 1 < u.length) && g u (p + 1) / 64 == 2)) = true
  · rw [if_pos c1]
    simp only [Bool.and_eq_true, beq_iff_eq, decide_eq_true_eq] at c1
    by_cases c2 : g u p % 32 * 64 + g u (p + 1) % 64 ≥ 128
    · rw [if_pos c2]
      refine ⟨c2, by omega, fun j hj => ?_⟩
      have : j = 0 ∨ j = 1 := by omega
      rcases this with rfl | rfl
      · exact ⟨hp, h⟩
      · exact ⟨c1.2.1, by omega⟩
    · rw [if_neg c2]
      exact ⟨by decide, by decide, one⟩
  · rw [if_neg c1]
    by_cases c1 : (g u p / 16 == 14 && (decide (p + 1 < u.length) && g u (p + 1) / 64 == 2) && (decide (p + 2 < u.length) && g u (p + 2) / 64 == 2)) = true
    · rw [if_pos c1]
      simp only [Bool.and_eq_true, beq_iff_eq, decide_eq_true_eq] at c1
      split
      · rename_i c2
        simp only [Bool.and_eq_true, decide_eq_true_eq] at c2
        refine ⟨by have := c2.1; simp only; omega, by simp only; omega, fun j hj => ?_⟩
        have : j = 0 ∨ j = 1 ∨ j = 2 := by simp only at hj; omega
        rcases this with rfl | rfl | rfl
        · exact ⟨hp, h⟩
        · exact ⟨c1.1.2.1, by omega⟩
        · exact ⟨c1.2.1, by omega⟩
      · exact ⟨by decide, by decide, one⟩
    · rw [if_neg c1]
      by_cases c1 : (g u p / 8 == 30 && (decide (p + 1 < u.length) && g u (p + 1) / 64 == 2) && (decide (p + 2 < u.length) && g u (p + 2) / 64 == 2) && (decide (p + 3 < u.length) && g u (p + 3) / 64 == 2)) = true
      · rw [if_pos c1]
        simp only [Bool.and_eq_true, beq_iff_eq, decide_eq_true_eq] at c1
        split
        · rename_i c2
          simp only [Bool.and_eq_true, decide_eq_true_eq] at c2
          refine ⟨by have := c2.1; simp only; omega, by simp only; omega, fun j hj => ?_⟩
          have : j = 0 ∨ j = 1 ∨ j = 2 ∨ j = 3 := by simp only at hj; omega
          rcases this with rfl | rfl | rfl | rfl
          · exact ⟨hp, h⟩
          · exact ⟨c1.1.1.2.1, by omega⟩
          · exact ⟨c1.1.2.1, by omega⟩
          · exact ⟨c1.2.1, by omega⟩
        · exact ⟨by decide, by decide, one⟩
      · rw [if_neg c1]
        exact ⟨by decide, by decide, one⟩
theorem next_any {w : World} {q p : Nat} {u : List UInt8} {ty : TypeId} {K : Value → World → Prop} {E : PanW} (hq : w.heap[q]? = some (.stringIter (bs u) p)) (hp : p < u.length)
    (hK : ∀ w', w'.heap[q]? = some (.stringIter (bs u) (p + (Utf8.decode (bs u) p).2)) → Chg (OnlyB q) w w' → K (.tuple #[.bool true, .int .i64 (p : Int), .int .i32 ((Utf8.decode (bs u) p).1 : Int)]) w') :
    runV Tryz.prog (Instr.next (.pointer (some ⟨q, 0, none⟩)) true ty) w K E :=
  runV_of_ok (Lib.run_next_any_at w q (bs u) p ty hq (by rw [bs_size]; exact hp)) (hK _ (Lib.iterAt_heap w q (bs u) p _ hq) ⟨rfl, rfl, rfl, by rw [Lib.iterAt_size]; exact Nat.le_refl _, fun k hk hne => Lib.iterAt_other w q k _ _ hne⟩)
theorem next_end {w : World} {q p : Nat} {u : List UInt8} {ty : TypeId} {K : Value → World → Prop} {E : PanW} (hq : w.heap[q]? = some (.stringIter (bs u) p)) (hp : ¬ p < u.length) (hK : K (.tuple #[.bool false]) w) :
    runV Tryz.prog (Instr.next (.pointer (some ⟨q, 0, none⟩)) true ty) w K E :=
  runV_of_ok (Lib.run_next_end_at w q (bs u) p ty hq (by rw [bs_size]; exact hp)) hK
theorem set_at {w0 w : World} {base r k e : Nat} {t : List UInt8} {ws : List Wd} {v : Value} {K : World → Prop} (h : RdO w base r t k ws) (hc : Chg (fun b => r ≤ b) w0 w) (hv : v = .int .i64 (e : Int)) (hK : ∀ w', RdO w' base r t e ws → Chg (fun b => r ≤ b) w0 w' → K w') : setW w (addK ⟨r, 0, none⟩ 1) v K := by
  subst hv
  obtain ⟨a, n, c, h1, h2, h3, h4, h5, h6⟩ := h
  refine set1 h1 rfl ?_
  intro w4 hb4 hc4 hs4
  refine hK w4 ⟨a, n, c, hb4, ?_, h3, h4, by omega, h6⟩ (hc.trans (hc4.mono fun b _ hb => by rw [show b = r from hb]; exact Nat.le_refl _))
  exact own_of_chg h2 hc4 fun b hb hx => by have := (own_lt' h2 hb).2; have : b = r := hx; omega
theorem RdO.chgB {w w' : World} {base r q : Nat} {t : List UInt8} {k : Nat} {ws : List Wd} (h : RdO w base r t k ws) (hc : Chg (fun b => q ≤ b) w w') (hq : w.heap.size ≤ q) : RdO w' base r t k ws := by
  refine h.chg (hc.mono fun b hb hx => ?_)
  omega
theorem skip_ok {w : World} {base r k : Nat} {t : List UInt8} {ws : List Wd} (h : RdO w base r t k ws) (hk : k ≤ t.length) (ht : t.length ≤ 65536) :
    Calls Tryz.prog 46 #[.pointer (some ⟨r, 0, none⟩)] w (endW (fun v w' => RdO w' base r t (sk t false k) ws ∧ Chg (fun b => r ≤ b) w w') (fun _ _ => False)) := by
  refine F46_calls _ ?_
  delta F46
  have h0 := h
  obtain ⟨a, n, c, h1, h2, h3, h4, h5, h6⟩ := h
  refine some_i (some_i ⟨_, h1.drew.s, _, h1.drew.at_, by omega, by rw [bs_size]; omega, ?_⟩)
  rw [Int.toNat_natCast, ext_cut, bs_size]
  have hul : (cut t k t.length).length = t.length - k := cut_length _ _ _ hk (Nat.le_refl _)
  have hug : ∀ j, j < t.length - k → g (cut t k t.length) j = g t (k + j) := fun j hj => cut_get _ _ _ _ (by omega)
  generalize cut t k t.length = u at hul hug ⊢
  have hr : (Instr.range 9 (.string (bs u))).run Tryz.prog w.drew = .ok (.pointer (some ⟨w.drew.heap.size, 0, none⟩)) (w.drew.iter (bs u) 0) := run_range_string w.drew 9 (bs u) Tryz.underlying9
  refine runV_of_ok hr ?_
  have hq0 : (w.drew.iter (bs u) 0).heap[w.heap.size]? = some (.stringIter (bs u) 0) := World.iter_heap w.drew (bs u) 0
  have hc0 : Chg (fun b => w.heap.size ≤ b) w (w.drew.iter (bs u) 0) := ((chg_drew w _).trans (chg_alloc w.drew (.stringIter (bs u) 0) _))
  have hsz : w.drew.heap.size = w.heap.size := size_drew w
  rw [hsz]
  generalize w.drew.iter (bs u) 0 = w0 at hq0 hc0 ⊢
  have hrs : ∀ w', Chg (fun b => w.heap.size ≤ b) w w' → RdO w' base r t k ws := fun w' hc => h0.chgB hc (Nat.le_refl _)
  have hrc : ∀ w', Chg (fun b => w.heap.size ≤ b) w w' → Chg (fun b => r ≤ b) w w' := fun w' hc => hc.mono fun b _ hb => by omega
  refine ⟨fun s w' => ∃ p : Nat, w'.heap[w.heap.size]? = some (.stringIter (bs u) p) ∧ p ≤ u.length ∧ sk t s (k + p) = sk t false k ∧ Chg (fun b => w.heap.size ≤ b) w w', fun s w' => u.length - w'.iterPos w.heap.size, ⟨false, ⟨rfl, trivial⟩, 0, hq0, by omega, rfl, hc0⟩, ?_⟩
  rintro s w1 ⟨p, hq1, hpl, he, hc1⟩ _
  have ip1 : w1.iterPos w.heap.size = p := by unfold World.iterPos; rw [hq1]
  by_cases hp : p < u.length
  · refine next_any hq1 hp ?_
    intro w2 hq2 hc2
    refine .inr ⟨_, _, rfl, ?_⟩
    have hc02 : Chg (fun b => w.heap.size ≤ b) w w2 := hc1.trans (hc2.mono fun b _ hb => by rw [show b = w.heap.size from hb]; exact Nat.le_refl _)
    have hgu := hug p (by omega)
    have ip2 : w2.iterPos w.heap.size = p + (Utf8.decode (bs u) p).2 := by unfold World.iterPos; rw [hq2]
    have hcode : ∀ m : Nat, m < 128 → (((Utf8.decode (bs u) p).1 : Int) == (m : Int)) = decide (g t (k + p) = m) := fun m hm => by
      rw [beq_nat]
      by_cases hlo : g u p < 128
      · rw [dec_low hlo, hgu]
      · have := (dec_high hp (by omega)).1
        rw [decide_eq_decide]
        omega
    have hstep : ∀ s' : Bool, (g u p < 128 → sk t s' (k + p + 1) = sk t s (k + p)) → (128 ≤ g u p → s = true ∧ s' = true) → ∃ s'_1 : Bool, (Value.bool s'_1 = Value.bool s' ∧ True) ∧ (∃ p : Nat, w2.heap[w.heap.size]? = some (.stringIter (bs u) p) ∧ p ≤ u.length ∧ sk t s'_1 (k + p) = sk t false k ∧ Chg (fun b => w.heap.size ≤ b) w w2) ∧ u.length - w2.iterPos w.heap.size < u.length - w1.iterPos w.heap.size := fun s' hlow hhigh => by
      refine ⟨s', ⟨rfl, trivial⟩, ⟨p + (Utf8.decode (bs u) p).2, hq2, ?_, ?_, hc02⟩, ?_⟩
      · by_cases hlo : g u p < 128
        · rw [dec_low hlo]; exact hp
        · have hd := dec_high hp (by omega)
          have := (hd.2.2 ((Utf8.decode (bs u) p).2 - 1) (by omega)).1
          omega
      · by_cases hlo : g u p < 128
        · rw [dec_low hlo, ← he, ← hlow hlo]
          rfl
        · have hd := dec_high hp (by omega)
          obtain ⟨rfl, rfl⟩ := hhigh (by omega)
          rw [← he, ← Nat.add_assoc]
          refine (sk_high _ (k + p) fun j hj => ?_).symm
          have := hd.2.2 j hj
          rw [hug (p + j) (by omega)] at this
          rw [Nat.add_assoc]
          exact ⟨by omega, this.2⟩
      · rw [ip1, ip2]
        by_cases hlo : g u p < 128
        · rw [dec_low hlo]; omega
        · have hd := dec_high hp (by omega)
          omega
    have hkp : k + p < t.length := by omega
    rw [show (((Utf8.decode (bs u) p).1 : Int) == (10 : Int)) = decide (g t (k + p) = 10) from hcode 10 (by omega), show (((Utf8.decode (bs u) p).1 : Int) == (35 : Int)) = decide (g t (k + p) = 35) from hcode 35 (by omega), show (((Utf8.decode (bs u) p).1 : Int) == (32 : Int)) = decide (g t (k + p) = 32) from hcode 32 (by omega), show (((Utf8.decode (bs u) p).1 : Int) == (9 : Int)) = decide (g t (k + p) = 9) from hcode 9 (by omega), show (((Utf8.decode (bs u) p).1 : Int) == (13 : Int)) = decide (g t (k + p) = 13) from hcode 13 (by omega)]
    by_cases h10 : g t (k + p) = 10
    · rw [if_pos (by simp [h10])]
      exact hstep false (fun _ => (sk_nl hkp h10).symm) (fun h => by omega)
    · rw [if_neg (by simp [h10])]
      refine ⟨fun s' w' => w' = w2 ∧ (s' = true ↔ (s = true ∨ g t (k + p) = 32 ∨ g t (k + p) = 9 ∨ g t (k + p) = 13)), ?_, ?_⟩
      · rintro s1 w3 ⟨rfl, hs1⟩ _
        by_cases h1' : s1 = true
        · rw [if_pos h1']
          refine hstep s (fun hlo => ?_) (fun hhi => ?_)
          · cases s with
            | true => exact (sk_rem hkp h10).symm
            | false =>
              have := hs1.1 h1'
              rcases this with h | h
              · cases h
              · exact (sk_blank hkp h).symm
          · have := hs1.1 h1'
            rcases this with h | h
            · exact ⟨h, h⟩
            · omega
        · rw [if_neg h1']
          have hno : ¬ (s = true ∨ g t (k + p) = 32 ∨ g t (k + p) = 9 ∨ g t (k + p) = 13) := fun h => h1' (hs1.2 h)
          have hsf : s = false := by cases s with
            | true => exact absurd (.inl rfl) hno
            | false => rfl
          subst hsf
          by_cases h35 : g t (k + p) = 35
          · rw [if_pos (by simp [h35])]
            exact hstep true (fun _ => (sk_hash hkp h35).symm) (fun h => by omega)
          · rw [if_neg (by simp [h35])]
            have hst := sk_stop hkp h10 (fun h => hno (.inr h)) h35
            have hr3 := hrs w3 hc02
            have hr3' := hr3
            obtain ⟨a', n', c', g1, _⟩ := hr3'
            refine some_i ⟨_, g1.at_, some_i (set_at (e := k + p) hr3 (hrc _ hc02) (by rw [i64w _ (by omega) (by omega)]; rfl) ?_)⟩
            intro w4 hr4 hc4
            rw [← he, hst]
            exact ⟨hr4, hc4⟩
      · by_cases hs : s = true
        · rw [if_pos hs]
          exact ⟨true, ⟨by rw [hs], trivial⟩, rfl, by simp [hs]⟩
        · rw [if_neg hs]
          by_cases h32 : g t (k + p) = 32
          · rw [if_pos (by simp [h32])]
            exact ⟨true, ⟨by simp [h32], trivial⟩, rfl, by simp [h32]⟩
          · rw [if_neg (by simp [h32])]
            by_cases h9 : g t (k + p) = 9
            · rw [if_pos (by simp [h9])]
              exact ⟨true, ⟨by simp [h9], trivial⟩, rfl, by simp [h9]⟩
            · rw [if_neg (by simp [h9])]
              exact ⟨_, ⟨rfl, trivial⟩, rfl, by simp [hs, h32, h9]⟩
  · refine next_end hq1 hp ?_
    refine .inl ⟨rfl, ?_⟩
    have hr1 := hrs w1 hc1
    have hr1' := hr1
    obtain ⟨a', n', c', g1, _⟩ := hr1'
    refine some_i ⟨_, g1.s, some_i (set_at (e := t.length) hr1 (hrc _ hc1) (by rw [bs_size]) ?_)⟩
    intro w4 hr4 hc4
    have : k + p = t.length := by omega
    rw [this, sk_end (Nat.lt_irrefl _)] at he
    rw [← he]
    exact ⟨hr4, hc4⟩
end Go.Proofs.YtpolbdakhfcilaaGreatDoor.B

/-
  scan: All.
-/
set_option maxRecDepth 100000
set_option linter.unusedVariables false
set_option linter.unusedSimpArgs false
namespace Go.Proofs.YtpolbdakhfcilaaGreatDoor.B
open Go Go.Proofs Go.Proofs.YtpolbdakhfcilaaGreatDoorEng Go.RowKit

theorem closed_ok {t : List UInt8} {e m kd j n : Nat} (h : closedAt t e m = .ok kd j n) : kd = 2 ∧ j = e ∧ n = m := by
  unfold closedAt at h
  split at h
  · cases h
  · injection h with h1 h2 h3
    exact ⟨h1.symm, h2.symm, h3.symm⟩
theorem cut_pos {t : List UInt8} {a b : Nat} (h : cut t a b ≠ []) : a < b ∧ a < t.length := by
  have h1 : ¬ (cut t a b).length = 0 := fun e => h (List.eq_nil_of_length_eq_zero e)
  simp [cut] at h1
  omega
theorem dots_le {t : List UInt8} {i at_ m kd j n : Nat} (h : dots t i at_ m = .ok kd j n) (hl : at_ ≤ t.length) : kd = 2 ∧ at_ ≤ j ∧ j ≤ t.length ∧ (i < 4 → at_ < j) := by
  by_cases hi : i < 4
  · by_cases hc : i = 0 ∨ isAt t at_ 46 = true
    · generalize hb : (if i = 0 then at_ else at_ + 1) = b
      have hbl : at_ ≤ b := by subst hb; split <;> omega
      generalize he : span isDig t b = e
      by_cases hn : cut t b e ≠ [] ∧ vals 10 (cut t b e) ≤ 255 ∧ ¬ (b + 1 < e ∧ isAt t b 48 = true)
      · rw [dots_go hi hb.symm he.symm hc hn] at h
        have hp := cut_pos hn.1
        have hsp := span_le isDig t b
        rw [he] at hsp
        have := dots_le h (hsp.2 (by omega))
        omega
      · rw [dots_bad hi hb.symm he.symm hc hn] at h
        cases h
    · rw [dots_no hi hc] at h
      cases h
  · rw [dots, if_neg hi] at h
    have := closed_ok h
    exact ⟨this.1, by omega, by omega, fun h => absurd h hi⟩
termination_by 4 - i
theorem num_le {t : List UInt8} {k kd j n : Nat} (h : numAt t k = .ok kd j n) (hk : k < t.length) : kd = 2 ∧ k < j ∧ j ≤ t.length := by
  unfold numAt at h
  split at h
  · rename_i m e hp
    have h1 := closed_ok h
    have h2 := pr_le hp (Nat.le_of_lt hk)
    have := h2.2.2 (by omega)
    exact ⟨h1.1, by omega, by omega⟩
  · split at h
    · unfold hexNum at h
      split at h
      · rename_i hx hy
        have h1 := closed_ok h
        have h2 := cut_pos hy.1
        have h3 := span_le isHex t (k + 2)
        exact ⟨h1.1, by omega, by have := h3.2 (by omega); omega⟩
      · cases h
    · split at h
      · have := dots_le h (Nat.le_of_lt hk)
        exact ⟨this.1, this.2.2.2 (by omega), this.2.2.1⟩
      · unfold decNum at h
        split at h
        · rename_i hy
          split at h
          · cases h
          · have h1 := closed_ok h
            have h2 := cut_pos hy.1
            have h3 := span_le isDig t k
            exact ⟨h1.1, by omega, by have := h3.2 (by omega); omega⟩
        · cases h
theorem one_le {t : List UInt8} {k kd j n : Nat} (h : oneAt t k = .ok kd j n) (hk : k < t.length) : 1 ≤ kd ∧ kd ≤ 3 ∧ k < j ∧ j ≤ t.length := by
  unfold oneAt at h
  split at h
  · have := num_le h hk
    omega
  · split at h
    · rename_i hl
      split at h
      · cases h
      · injection h with h1 h2 h3
        subst h2
        have hgo := span_go (p := isAl) hk (by simp [isAl, hl])
        have h4 := span_le isAl t (k + 1)
        rw [hgo]
        exact ⟨by omega, by omega, by omega, h4.2 (by omega)⟩
    · split at h
      · split at h
        · rename_i hx
          injection h with h1 h2 h3
          simp [isAt] at hx
          omega
        · cases h
      · split at h
        · injection h with h1 h2 h3
          omega
        · cases h

/-- the words from a place on, behind those that there are; or the first fault -/
def scan (t : List UInt8) (k : Nat) (ws : List Wd) : List Wd ⊕ (Nat × Nat × List UInt8) :=
  if h : sk t false k < t.length then (match oneAt t (sk t false k) with
    | .bad e j => .inr (e, sk t false k, cut t (sk t false k) j)
    | .ok kd j m => if h2 : sk t false k < j then scan t j (ws ++ [⟨kd, cut t (sk t false k) j, m, sk t false k⟩]) else .inr (0, 0, [])) else .inl ws
termination_by t.length - k
decreasing_by have := (sk_le t false k).1; omega
theorem scan_end {t : List UInt8} {k : Nat} {ws : List Wd} (h : ¬ sk t false k < t.length) : scan t k ws = .inl ws := by rw [scan, dif_neg h]
theorem scan_bad {t : List UInt8} {k e j : Nat} {ws : List Wd} (h : sk t false k < t.length) (ho : oneAt t (sk t false k) = .bad e j) : scan t k ws = .inr (e, sk t false k, cut t (sk t false k) j) := by rw [scan, dif_pos h, ho]
theorem scan_go {t : List UInt8} {k kd j m : Nat} {ws : List Wd} (h : sk t false k < t.length) (ho : oneAt t (sk t false k) = .ok kd j m) : scan t k ws = scan t j (ws ++ [⟨kd, cut t (sk t false k) j, m, sk t false k⟩]) := by
  rw [scan, dif_pos h, ho]
  exact dif_pos (one_le ho h).2.2.1
def allR (t : List UInt8) : List Wd ⊕ (Nat × Nat × List UInt8) := if t.length > 65536 then .inr (3, 0, []) else match scan t 0 [] with
  | .inl ws => .inl (ws ++ [⟨0, [], 0, t.length⟩])
  | .inr x => .inr x
def AllV (w0 : World) (o : List Wd ⊕ (Nat × Nat × List UInt8)) (v : Value) (w' : World) : Prop := Chg NoS w0 w' ∧ (match o with
  | .inl ws => ∃ a n c, v = .tuple #[.slice a n c, .nilIface] ∧ w'.ownsRow w0.heap.size 71 4 (.slice a n c) n (wcells ws) ∧ n = ws.length
  | .inr x => ∃ b, v = .tuple #[.slice none 0 0, .iface 61 (.pointer (some ⟨b, 0, none⟩))] ∧ w0.heap.size ≤ b ∧ w'.heap[b]? = some (.cells #[.int .i64 (x.1 : Int), .int .i64 (x.2.1 : Int), .string (bs x.2.2)] 74 (0, 0)))
def rpos (w : World) (r : Nat) : Nat := match w.heap[r]? with
  | some (.cells cs _ _) => (match cs[1]? with
    | some (Value.int _ z) => z.toNat
    | _ => 0)
  | _ => 0
theorem rpos_rd {w : World} {r k n c : Nat} {t : List UInt8} {a : Option Addr} (h : Rd w r t k a n c) : rpos w r = k := by
  unfold rpos
  rw [show w.heap[r]? = _ from h]
  rfl
theorem All_ok (w : World) (t : List UInt8) (hE : Errs w) : Calls Tryz.prog 20 #[.string (bs t)] w (endW (AllV w (allR t)) (fun _ _ => False)) := by
  refine F20_calls _ ?_
  delta F20
  rw [bs_size]
  unfold allR
  by_cases hbig : t.length > 65536
  · rw [if_pos (by simp; omega), if_pos hbig]
    exact ⟨chg_alloc w _ _, w.heap.size, rfl, Nat.le_refl _, blk_alloc w _⟩
  rw [if_neg (by simp; omega), if_neg hbig]
  have ht : t.length ≤ 65536 := by omega
  have hr0 : RdO (w.alloc (.cells #[.string (bs t), .int .i64 0, .slice none 0 0] 100)) (w.heap.size + 1) w.heap.size t 0 [] := ⟨none, 0, 0, blk_alloc w _, own_nil' _ _ _ _, rfl, by omega, by rw [size_alloc]; omega, by simp⟩
  have hc0 : Chg (fun b => w.heap.size ≤ b) w (w.alloc (.cells #[.string (bs t), .int .i64 0, .slice none 0 0] 100)) := chg_alloc w _ _
  generalize hr : w.heap.size = r at hr0 hc0 ⊢
  generalize w.alloc (.cells #[.string (bs t), .int .i64 0, .slice none 0 0] 100) = w0 at hr0 hc0 ⊢
  have new : ∀ w', Chg (fun b => r ≤ b) w w' → Chg NoS w w' := fun w' hc => hc.mono fun b hb hx => by omega
  refine Calls.then (skip_ok hr0 (by omega) ht) ?_
  rintro v w1 ⟨hr1, hc1⟩
  refine ⟨fun _ w' => ∃ (k : Nat) (ws : List Wd), RdO w' (r + 1) r t (sk t false k) ws ∧ k ≤ t.length ∧ ws.length ≤ k ∧ scan t k ws = scan t 0 [] ∧ Chg (fun b => r ≤ b) w w', fun _ w' => t.length - rpos w' r, ⟨(), trivial, 0, [], hr1, by omega, by simp, rfl, hc0.trans hc1⟩, ?_⟩
  rintro _ w2 ⟨k, ws, hr2, hkl, hwl, hsc, hc2⟩ _
  have hr2' := hr2
  obtain ⟨a, n, c, h1, h2, h3, h4, h5, h6⟩ := hr2'
  have hmu : rpos w2 r = sk t false k := by
    exact rpos_rd h1
  have hskl := sk_le t false k
  refine ⟨_, h1.at_, ?_⟩
  by_cases hlt : sk t false k < t.length
  · rw [if_pos (by simp; omega)]
    refine Calls.then (word_ok hr2 hlt ht (by omega) (hE.chg (new _ hc2))) ?_
    intro v w3 hres
    obtain ⟨hc3, hres2⟩ := hres
    cases ho : oneAt t (sk t false k) with
    | bad e j =>
      rw [ho] at hres2
      obtain ⟨b, rfl, hb, hcell⟩ := hres2
      refine ⟨_, rfl, ?_⟩
      rw [if_pos (by rfl), ← hsc, scan_bad hlt ho]
      exact ⟨new _ (hc2.trans hc3), b, rfl, by have := hc2.size; omega, hcell⟩
    | ok kd j m =>
      rw [ho] at hres2
      obtain ⟨rfl, hr3⟩ := hres2
      refine ⟨_, rfl, ?_⟩
      rw [if_neg (by decide)]
      have hle := one_le ho hlt
      refine Calls.then (skip_ok hr3 hle.2.2.2 ht) ?_
      rintro v w4 ⟨hr4, hc4⟩
      refine ⟨(), trivial, ⟨j, _, hr4, hle.2.2.2, by simp; omega, by rw [← scan_go hlt ho]; exact hsc, (hc2.trans hc3).trans hc4⟩, ?_⟩
      obtain ⟨a4, n4, c4, g1, _⟩ := hr4
      have hm4 := rpos_rd g1
      have := (sk_le t false j).1
      dsimp only
      rw [hmu, hm4]
      omega
  · rw [if_neg (by simp; omega), ← hsc, scan_end hlt]
    refine ⟨_, _, _, h1.l, ?_⟩
    refine push_ok (x := ⟨0, [], 0, t.length⟩) h2 (by omega) h5 ?_
    intro a' c' w3 ho3 hc3
    refine ⟨_, _, _, rfl, new _ (hc2.trans (hc3.mono fun b _ hb => by omega)), a', n + 1, c', rfl, ?_, by simp [h3]⟩
    rw [hr]
    exact own_base' ho3 fun b hb => by have := (own_lt' ho3 hb).2; omega
end Go.Proofs.YtpolbdakhfcilaaGreatDoor.B

